/- The law FnCompactLeft holds (part 6 of 7; merged by pack2.py). -/
import Derived.RangeFuncNested
import Derived.RangeFuncBound
import Derived.RangeFuncCalls
import Derived.RangeFuncLeaves
import Derived.Shelf.Abstract
import Derived.Shelf.RegionOpen
import Derived.OwnWalkIn
import Derived.TacticsInMore
import Derived.LoopNIn
import Derived.LoopIn
import Derived.Maps.OwnIn
import Derived.Maps.Views
import Derived.StringKeys
import Derived.Test.YtkhjmhdgcmffaaaFnCompactLeftK4
set_option maxRecDepth 1000000
open List (setIfInBounds_toArray set_cons_zero set_cons_succ map_toArray map_cons map_nil length_drop length_take)
namespace Go.Proofs.Ytkhjmhdgcmffaaa.X
open Go.RowKit Go.Proofs.YtkhjmhdgcmffaaaW.PrintWords Go.Proofs.YtkhjmhdgcmffaaaW.PrintLast Go.Proofs.YtkhjmhdgcmffaaaW.PrintMore
attribute [local go_sem] max2_int max_two
set_option linter.unusedVariables false
set_option linter.unusedSimpArgs false
section
open Go.Shelf
attribute [local go_sem] Oper.semAt_some
def KeepT (t:TypeId) (W W' : World):Prop:=∀ (k:Nat) (cs:Array Value) (f:Nat×Nat),W.heap[k]? = some (.cells cs t f)→W'.heap[k]? = some (.cells cs t f)
theorem KeepT.refl (t:TypeId) (W:World):KeepT t W W:=fun _ _ _ h=>h
theorem KeepT.trans {t:TypeId} {X Y Z:World} (h:KeepT t X Y) (k:KeepT t Y Z):KeepT t X Z:=fun i cs f hi=>k i cs f (h i cs f hi)
theorem KeepT.of_below {t:TypeId} {W W' : World} (h:Below W.heap.size W W'):KeepT t W W':=fun k cs f hk=>(h.block k (Array.getElem?_eq_some_iff.1 hk).1).trans hk
theorem KeepT.of_grownBy {t:TypeId} {W W' : World} {row:Option Nat} (h:W.grownBy W' row) (hr:∀ k,row=some k→∀ cs f,W.heap[k]? ≠ some (.cells cs t f)):KeepT t W W':=fun k cs f hk=>(h.block k (Array.getElem?_eq_some_iff.1 hk).1 (fun e=>hr k e.symm cs f hk)).trans hk
theorem KeepT.putObj {t:TypeId} (W:World) (l:Nat) (o o' : Obj) (h:W.heap[l]? = some o) (ho:o.isCells=false):KeepT t W (W.putObj l o'):=
 KeepT.of_grownBy (grownBy_putObj' W l o') (fun k e cs f hk=>by cases e;rw [h] at hk;cases hk;cases ho)
theorem KeepT.alloc {t:TypeId} (W:World) (o:Obj):KeepT t W (W.alloc o):=KeepT.of_grownBy (World.grownBy_alloc W o none) (fun k e=>by cases e)
structure Places (w:World) (A:Option Addr) (l:List S34) (AB:Nat→Option Addr) (CB:Nat→Nat) (AK:Nat→Nat→Option Addr) (CK:Nat→Nat→Nat) (AV:Nat→Nat→Option Addr) (CV:Nat→Nat→Nat):Prop where
 out:∀ i:Nat,i < l.length→∃ ad,A=some ad∧w.cell? (ad.add (i * 6))=some (.bool (Qa l i).f0)∧w.cell? ⟨(ad.add (i * 6)).block,(ad.add (i * 6)).off+1,none⟩=some (.bool (Qa l i).f1)∧w.cell? ⟨(ad.add (i * 6)).block,(ad.add (i * 6)).off+2,none⟩=some (.int .i64 (Qa l i).f2)∧w.cell? ⟨(ad.add (i * 6)).block,(ad.add (i * 6)).off+3,none⟩=some (.int .i64 (Qa l i).f3)∧w.cell? ⟨(ad.add (i * 6)).block,(ad.add (i * 6)).off+4,none⟩=some (.int .i64 (Qa l i).f4)∧w.cell? ⟨(ad.add (i * 6)).block,(ad.add (i * 6)).off+5,none⟩=some (.slice (AB i) (Qa l i).f5.length (CB i))
 row:∀ i:Nat,(Qa l i).f5.length≤CB i∧Kd.C k30 w (AB i) (Qa l i).f5.length (Qa l i).f5
 item:∀ i j:Nat,j < (Qa l i).f5.length→∃ ad,AB i=some ad∧w.cell? (ad.add (j * 6))=some (.int .i64 (Qb (Qa l i).f5 j).f0)∧w.cell? ⟨(ad.add (j * 6)).block,(ad.add (j * 6)).off+1,none⟩=some (.int .i64 (Qb (Qa l i).f5 j).f1)∧w.cell? ⟨(ad.add (j * 6)).block,(ad.add (j * 6)).off+2,none⟩=some (.bool (Qb (Qa l i).f5 j).f2)∧w.cell? ⟨(ad.add (j * 6)).block,(ad.add (j * 6)).off+3,none⟩=some (.slice (AK i j) (Qb (Qa l i).f5 j).f3.length (CK i j))∧w.cell? ⟨(ad.add (j * 6)).block,(ad.add (j * 6)).off+4,none⟩=some (.bool (Qb (Qa l i).f5 j).f4)∧w.cell? ⟨(ad.add (j * 6)).block,(ad.add (j * 6)).off+5,none⟩=some (.slice (AV i j) (Qb (Qa l i).f5 j).f5.length (CV i j))
 key:∀ i j:Nat,(Qb (Qa l i).f5 j).f3.length≤CK i j∧(Kd.int .i64).C w (AK i j) (Qb (Qa l i).f5 j).f3.length (Qb (Qa l i).f5 j).f3
 val:∀ i j:Nat,(Qb (Qa l i).f5 j).f5.length≤CV i j∧(Kd.int .i64).C w (AV i j) (Qb (Qa l i).f5 j).f5.length (Qb (Qa l i).f5 j).f5
theorem rd_none_B {l:List S34} {i:Nat} (h:¬ i < l.length):Qa l i=z34:=by
 unfold Qa;rw [Int.toNat_natCast,List.getD_eq_getElem?_getD,List.getElem?_eq_none (by omega)];rfl
theorem rd_none_R {l:List S30} {i:Nat} (h:¬ i < l.length):Qb l i=z30:=by
 unfold Qb;rw [Int.toNat_natCast,List.getD_eq_getElem?_getD,List.getElem?_eq_none (by omega)];rfl
theorem places_of {w:World} {A:Option Addr} {l:List S34} (h:Kd.C k34 w A l.length l):∃ AB CB AK CK AV CV,Places w A l AB CB AK CK AV CV:=by
 have h1:∀ i:Nat,∃ (p:Option Addr×Nat),(i < l.length→∃ ad,A=some ad∧w.cell? (ad.add (i * 6))=some (.bool (Qa l i).f0)∧w.cell? ⟨(ad.add (i * 6)).block,(ad.add (i * 6)).off+1,none⟩=some (.bool (Qa l i).f1)∧w.cell? ⟨(ad.add (i * 6)).block,(ad.add (i * 6)).off+2,none⟩=some (.int .i64 (Qa l i).f2)∧w.cell? ⟨(ad.add (i * 6)).block,(ad.add (i * 6)).off+3,none⟩=some (.int .i64 (Qa l i).f3)∧w.cell? ⟨(ad.add (i * 6)).block,(ad.add (i * 6)).off+4,none⟩=some (.int .i64 (Qa l i).f4)∧w.cell? ⟨(ad.add (i * 6)).block,(ad.add (i * 6)).off+5,none⟩=some (.slice p.1 (Qa l i).f5.length p.2)) ∧
   (Qa l i).f5.length≤p.2∧Kd.C k30 w p.1 (Qa l i).f5.length (Qa l i).f5:=by
  intro i;by_cases hi:i < l.length
  ·
   obtain ⟨ad,A5,c5,e,e0,e1,e2,e3,e4,e5,hl,hc⟩:=Ra h (i:Int) (by omega) (by omega);simp only [Int.toNat_natCast] at e0 e1 e2 e3 e4 e5;exact ⟨(A5,c5),fun _=>⟨ad,e,e0,e1,e2,e3,e4,e5⟩,hl,hc⟩
  ·
   refine ⟨(none,0),fun hi'=>absurd hi' hi,?_,?_⟩
   ·
    rw [rd_none_B hi];exact Nat.le_refl _
   ·
    rw [rd_none_B hi];exact Kd.C_nil k30 w
 obtain ⟨p,hp⟩:=Classical.axiomOfChoice h1;have h2:∀ x:Nat×Nat,∃ (q:(Option Addr×Nat)×(Option Addr×Nat)),(x.2 < (Qa l x.1).f5.length→∃ ad,(p x.1).1=some ad∧w.cell? (ad.add (x.2 * 6))=some (.int .i64 (Qb (Qa l x.1).f5 x.2).f0)∧w.cell? ⟨(ad.add (x.2 * 6)).block,(ad.add (x.2 * 6)).off+1,none⟩=some (.int .i64 (Qb (Qa l x.1).f5 x.2).f1)∧w.cell? ⟨(ad.add (x.2 * 6)).block,(ad.add (x.2 * 6)).off+2,none⟩=some (.bool (Qb (Qa l x.1).f5 x.2).f2)∧w.cell? ⟨(ad.add (x.2 * 6)).block,(ad.add (x.2 * 6)).off+3,none⟩=some (.slice q.1.1 (Qb (Qa l x.1).f5 x.2).f3.length q.1.2)∧w.cell? ⟨(ad.add (x.2 * 6)).block,(ad.add (x.2 * 6)).off+4,none⟩=some (.bool (Qb (Qa l x.1).f5 x.2).f4)∧w.cell? ⟨(ad.add (x.2 * 6)).block,(ad.add (x.2 * 6)).off+5,none⟩=some (.slice q.2.1 (Qb (Qa l x.1).f5 x.2).f5.length q.2.2)) ∧
   ((Qb (Qa l x.1).f5 x.2).f3.length≤q.1.2∧(Kd.int .i64).C w q.1.1 (Qb (Qa l x.1).f5 x.2).f3.length (Qb (Qa l x.1).f5 x.2).f3) ∧
   ((Qb (Qa l x.1).f5 x.2).f5.length≤q.2.2∧(Kd.int .i64).C w q.2.1 (Qb (Qa l x.1).f5 x.2).f5.length (Qb (Qa l x.1).f5 x.2).f5):=by
  rintro ⟨i,j⟩;dsimp only;by_cases hj:j < (Qa l i).f5.length
  ·
   obtain ⟨ad,A3,c3,A5,c5,e,e0,e1,e2,e3,e4,e5,hl3,hc3,hl5,hc5⟩:=Rg (hp i).2.2 (j:Int) (by omega) (by omega);simp only [Int.toNat_natCast] at e0 e1 e2 e3 e4 e5;exact ⟨((A3,c3),(A5,c5)),fun _=>⟨ad,e,e0,e1,e2,e3,e4,e5⟩,⟨hl3,hc3⟩,⟨hl5,hc5⟩⟩
  ·
   refine ⟨((none,0),(none,0)),fun hj'=>absurd hj' hj,?_,?_⟩
   ·
    rw [rd_none_R hj];exact ⟨Nat.le_refl _,Kd.C_nil _ w⟩
   ·
    rw [rd_none_R hj];exact ⟨Nat.le_refl _,Kd.C_nil _ w⟩
 obtain ⟨q,hq⟩:=Classical.axiomOfChoice h2;exact ⟨fun i=>(p i).1,fun i=>(p i).2,fun i j=>(q (i,j)).1.1,fun i j=>(q (i,j)).1.2,fun i j=>(q (i,j)).2.1,fun i j=>(q (i,j)).2.2,fun i hi=>(hp i).1 hi,fun i=>(hp i).2,fun i j hj=>(hq (i,j)).1 hj,fun i j=>(hq (i,j)).2.1,fun i j=>(hq (i,j)).2.2⟩
def ptsRow (l:List S34) (i:Nat):List (Nat×Nat):=(List.range (Qa l i).f5.length).map fun j=>(i,j)
def ptsTo (l:List S34) (i:Nat):List (Nat×Nat):=(List.range i).flatMap (ptsRow l)
def pts (l:List S34):List (Nat×Nat):=ptsTo l l.length
theorem ptsTo_succ (l:List S34) (i:Nat):ptsTo l (i+1)=ptsTo l i++ptsRow l i:=by
 unfold ptsTo;rw [List.range_succ,List.flatMap_append];simp
theorem ptsTo_prefix (l:List S34):∀ (d i:Nat),ptsTo l i <+: ptsTo l (i+d)
 | 0,i=>List.prefix_refl _
 | d+1,i=>by
  refine (ptsTo_prefix l d i).trans ?_
  rw [← Nat.add_assoc,ptsTo_succ]
  exact List.prefix_append _ _
def ptsAt (l:List S34) (i j:Nat):List (Nat×Nat):=ptsTo l i++(List.range j).map fun j=>(i,j)
theorem ptsAt_zero (l:List S34) (i:Nat):ptsAt l i 0=ptsTo l i:=by simp [ptsAt]
theorem ptsAt_succ (l:List S34) (i j:Nat):ptsAt l i (j+1)=ptsAt l i j ++ [(i,j)]:=by simp [ptsAt,List.range_succ]
theorem ptsAt_full (l:List S34) (i:Nat):ptsAt l i (Qa l i).f5.length=ptsTo l (i+1):=by rw [ptsTo_succ];rfl
theorem ptsAt_prefix {l:List S34} {i j:Nat} (hi:i < l.length) (hj:j≤(Qa l i).f5.length):ptsAt l i j <+: pts l:=by
 have h1:ptsAt l i j <+: ptsTo l (i+1):=by
  obtain ⟨d,hd⟩:∃ d,(Qa l i).f5.length=j+d:=⟨_,(Nat.add_sub_of_le hj).symm⟩;rw [← ptsAt_full,hd];unfold ptsAt;rw [List.range_add,List.map_append,← List.append_assoc];exact List.prefix_append _ _
 have h2:=ptsTo_prefix l (l.length - (i+1)) (i+1);rw [show i+1+(l.length - (i+1))=l.length by omega] at h2;exact h1.trans h2
theorem ptsAt_lt {l:List S34} {i j:Nat} (hi:i < l.length) (hj:j < (Qa l i).f5.length):(ptsAt l i j).length < (pts l).length:=by
 have:=(ptsAt_prefix hi (show j+1≤_ by omega)).length_le;rw [ptsAt_succ,List.length_append,List.length_singleton] at this;omega
def encB (l:List S34) (AB:Nat→Option Addr) (CB:Nat→Nat) (i:Nat):Value:=.agg #[.bool (Qa l i).f0,.bool (Qa l i).f1,.int .i64 (Qa l i).f2,.int .i64 (Qa l i).f3,.int .i64 (Qa l i).f4,.slice (AB i) (Qa l i).f5.length (CB i)]
def encR (l:List S34) (AK:Nat→Nat→Option Addr) (CK:Nat→Nat→Nat) (AV:Nat→Nat→Option Addr) (CV:Nat→Nat→Nat) (i j:Nat):Value:=.agg #[.int .i64 (Qb (Qa l i).f5 j).f0,.int .i64 (Qb (Qa l i).f5 j).f1,.bool (Qb (Qa l i).f5 j).f2,.slice (AK i j) (Qb (Qa l i).f5 j).f3.length (CK i j),.bool (Qb (Qa l i).f5 j).f4,.slice (AV i j) (Qb (Qa l i).f5 j).f5.length (CV i j)]
def KpR (n₀:Nat) (W W' : World):Prop:=Below n₀ W W'∧KeepT 34 W W'
theorem KpR.t {n₀:Nat} {A B C:World} (h:KpR n₀ A B) (k:KpR n₀ B C):KpR n₀ A C:=⟨h.1.trans k.1,h.2.trans k.2⟩
theorem KpR.b {n₀:Nat} {w:World} (hn:n₀≤w.heap.size) (W:World) (l:Nat) (o o' : Obj) (hl:w.heap.size≤l) (h:W.heap[l]? = some o) (hc:o.isCells=false) (hw:o.isWalk=false):KpR n₀ W (W.putObj l o'):=
 ⟨belowK_b hn W l o o' hl h hc hw,KeepT.putObj W l o o' h hc⟩
set_option maxHeartbeats 4000000 in
theorem recs1_in (F:Fence) (n:Nat) (h1:F.fn 70) (hro:F.round=none) (hn : 1≤n) (l Bs n₀:Nat) (A0:Option Addr) (c0:Nat) (l0:List S34) {AB:Nat→Option Addr} {CB:Nat→Nat} {AK:Nat→Nat→Option Addr} {CK:Nat→Nat→Nat} {AV:Nat→Nat→Option Addr} {CV:Nat→Nat→Nat}
  (w W:World) (hP:Places w A0 l0 AB CB AK CK AV CV) (hmax:l0.length≤9223372036854775807) (hn₀:n₀=w.heap.size) (J Jx:List (Nat×Nat)→World→Prop) (hJ:AbidesFrom W.heap.size J)
  (hY:∀ pre (x:Nat×Nat) W1,J pre W1→pre.length < (pts l0).length→YieldAt F (n - 1) Try.prog l #[encB l0 AB CB x.1,encR l0 AK CK AV CV x.1 x.2] W1 fun e W'=>
   (e = .returned (.bool true)∧J (pre ++ [x]) W'∧KpR n₀ W1 W')∨(e = .returned (.bool false)∧Jx (pre ++ [x]) W'))
  (hBs:W.cell? ⟨Bs,0,none⟩=some (.slice A0 l0.length c0)) (hWB:Below n₀ w W) (h0:J [] W) :
  CallsIn F n Try.prog 70 #[.func (.yield l) #[] #[],.pointer (some ⟨Bs,0,none⟩)] W fun e W'=>(∃ v,e = .returned v) ∧
   ((∃ ys,ys=pts l0∧J ys W')∨(∃ pre,pre <+: pts l0∧Jx pre W')):=by
 have HP:=zzm hP;have HJ:=zzm hJ;have HY:=zzm hY;clear hP hJ hY;refine callsIn_of_wp Try.func70 rfl h1 ?_ hro;simp only [Try.ntmps70,List.size_toArray,List.length_cons,List.length_nil,Nat.reduceAdd,Nat.reduceSub,Array.replicate_succ,Array.replicate_zero,List.push_toArray,List.append_toArray,List.nil_append,List.cons_append];gi_wp2;gi_loopw [9] (fun i wr=>∃ m:Nat,m≤l0.length∧i = .int .i64 (m:Int)∧J (ptsTo l0 m) wr∧Below n₀ W wr)
  (fun i _=>l0.length - (intOf i).toNat)
 case atStart=>exact ⟨0,Nat.zero_le _,by go_num,by simpa [ptsTo] using h0,Below.refl _ _⟩
 case round=>
  obtain ⟨m,hm,rfl,hJs,hnx⟩:=hrel;by_cases hlt:m < l0.length
  ·
   have hmi:((m:Nat):Int) < (l0.length:Int):=by omega
   obtain ⟨ad,he,a0,a1,a2,a3,a4,a5⟩:=HP.out.out m hlt;subst he;have hwb:=hWB.trans hnx;have a7:=(hwb.cell (by rw [hn₀];exact zzn w _ a0)).trans a0;have a8:=(hwb.cell (by rw [hn₀];exact zzn w _ a1)).trans a1;have a9:=(hwb.cell (by rw [hn₀];exact zzn w _ a2)).trans a2;have b0:=(hwb.cell (by rw [hn₀];exact zzn w _ a3)).trans a3;have b1:=(hwb.cell (by rw [hn₀];exact zzn w _ a4)).trans a4;have b2:=(hwb.cell (by rw [hn₀];exact zzn w _ a5)).trans a5;clear a0 a1 a2 a3 a4 a5;have HWB:=zzm hwb;clear hwb;gi_wp2;obtain ⟨B0,hB0⟩:∃ B0,wr.heap.size=B0:=⟨_,rfl⟩;rw [hB0];gi_loopw [16] (fun i w2=>∃ j:Nat,j≤(Qa l0 (m:Int)).f5.length∧i = .int .i64 (j:Int)∧J (ptsAt l0 m j) w2∧Below n₀ W w2∧w2.heap[B0]? = some (.cells #[.bool (Qa l0 (m:Int)).f0,.bool (Qa l0 (m:Int)).f1,.int .i64 (Qa l0 (m:Int)).f2,.int .i64 (Qa l0 (m:Int)).f3,.int .i64 (Qa l0 (m:Int)).f4,.slice (AB m) (Qa l0 (m:Int)).f5.length (CB m)] 34 (0,0)))
    (fun i _=>(Qa l0 (m:Int)).f5.length - (intOf i).toNat)
   case atStart=>exact ⟨0,Nat.zero_le _,by go_num,by rw [ptsAt_zero];exact HJ.out _ _ _ none hJs (World.grownBy_alloc wr _ none) (fun r e=>by cases e),hnx.trans ((Below.refl _ wr).alloc (by have:=hnx.size;have:=hWB.size;omega) _),hB0 ▸ World.alloc_heap_new wr _⟩
   case round=>
    obtain ⟨j,hj,rfl,hJ2,a6,hbx⟩:=hrel;have hmx:(Qa l0 (m:Int)).f5.length≤9223372036854775807:=(HP.out.row m).2.2.1;by_cases hltj:j < (Qa l0 (m:Int)).f5.length
    ·
     have hji:((j:Nat):Int) < ((Qa l0 (m:Int)).f5.length:Int):=by omega
     obtain ⟨b3,he2,a0,a1,a2,a3,a4,a5⟩:=HP.out.item m j hltj;rw [he2];rw [he2] at hbx;have hwb:=hWB.trans a6;have hd0:=(hwb.cell (by rw [hn₀];exact zzn w _ a0)).trans a0;have hd1:=(hwb.cell (by rw [hn₀];exact zzn w _ a1)).trans a1;have hd2:=(hwb.cell (by rw [hn₀];exact zzn w _ a2)).trans a2;have hd3:=(hwb.cell (by rw [hn₀];exact zzn w _ a3)).trans a3;have hd4:=(hwb.cell (by rw [hn₀];exact zzn w _ a4)).trans a4;have hd5:=(hwb.cell (by rw [hn₀];exact zzn w _ a5)).trans a5;clear a0 a1 a2 a3 a4 a5 a7 a8 a9 b0 b1 b2;have hbx2:=(Below.heap_alloc wr (.cells #[.int .i64 (Qb (Qa l0 (m:Int)).f5 (j:Int)).f0,.int .i64 (Qb (Qa l0 (m:Int)).f5 (j:Int)).f1,.bool (Qb (Qa l0 (m:Int)).f5 (j:Int)).f2,.slice (AK m j) (Qb (Qa l0 (m:Int)).f5 (j:Int)).f3.length (CK m j),.bool (Qb (Qa l0 (m:Int)).f5 (j:Int)).f4,.slice (AV m j) (Qb (Qa l0 (m:Int)).f5 (j:Int)).f5.length (CV m j)] 30) B0 (Array.getElem?_eq_some_iff.1 hbx).1).trans hbx;have hb0:(wr.alloc (.cells #[.int .i64 (Qb (Qa l0 (m:Int)).f5 (j:Int)).f0,.int .i64 (Qb (Qa l0 (m:Int)).f5 (j:Int)).f1,.bool (Qb (Qa l0 (m:Int)).f5 (j:Int)).f2,.slice (AK m j) (Qb (Qa l0 (m:Int)).f5 (j:Int)).f3.length (CK m j),.bool (Qb (Qa l0 (m:Int)).f5 (j:Int)).f4,.slice (AV m j) (Qb (Qa l0 (m:Int)).f5 (j:Int)).f5.length (CV m j)] 30)).cell? ⟨B0,0,none⟩=some (.bool (Qa l0 (m:Int)).f0):=by simp [World.cell?,hbx2]
     have hb1:(wr.alloc (.cells #[.int .i64 (Qb (Qa l0 (m:Int)).f5 (j:Int)).f0,.int .i64 (Qb (Qa l0 (m:Int)).f5 (j:Int)).f1,.bool (Qb (Qa l0 (m:Int)).f5 (j:Int)).f2,.slice (AK m j) (Qb (Qa l0 (m:Int)).f5 (j:Int)).f3.length (CK m j),.bool (Qb (Qa l0 (m:Int)).f5 (j:Int)).f4,.slice (AV m j) (Qb (Qa l0 (m:Int)).f5 (j:Int)).f5.length (CV m j)] 30)).cell? ⟨B0,1,none⟩=some (.bool (Qa l0 (m:Int)).f1):=by simp [World.cell?,hbx2]
     have hb2:(wr.alloc (.cells #[.int .i64 (Qb (Qa l0 (m:Int)).f5 (j:Int)).f0,.int .i64 (Qb (Qa l0 (m:Int)).f5 (j:Int)).f1,.bool (Qb (Qa l0 (m:Int)).f5 (j:Int)).f2,.slice (AK m j) (Qb (Qa l0 (m:Int)).f5 (j:Int)).f3.length (CK m j),.bool (Qb (Qa l0 (m:Int)).f5 (j:Int)).f4,.slice (AV m j) (Qb (Qa l0 (m:Int)).f5 (j:Int)).f5.length (CV m j)] 30)).cell? ⟨B0,2,none⟩=some (.int .i64 (Qa l0 (m:Int)).f2):=by simp [World.cell?,hbx2]
     have hb3:(wr.alloc (.cells #[.int .i64 (Qb (Qa l0 (m:Int)).f5 (j:Int)).f0,.int .i64 (Qb (Qa l0 (m:Int)).f5 (j:Int)).f1,.bool (Qb (Qa l0 (m:Int)).f5 (j:Int)).f2,.slice (AK m j) (Qb (Qa l0 (m:Int)).f5 (j:Int)).f3.length (CK m j),.bool (Qb (Qa l0 (m:Int)).f5 (j:Int)).f4,.slice (AV m j) (Qb (Qa l0 (m:Int)).f5 (j:Int)).f5.length (CV m j)] 30)).cell? ⟨B0,3,none⟩=some (.int .i64 (Qa l0 (m:Int)).f3):=by simp [World.cell?,hbx2]
     have hb4:(wr.alloc (.cells #[.int .i64 (Qb (Qa l0 (m:Int)).f5 (j:Int)).f0,.int .i64 (Qb (Qa l0 (m:Int)).f5 (j:Int)).f1,.bool (Qb (Qa l0 (m:Int)).f5 (j:Int)).f2,.slice (AK m j) (Qb (Qa l0 (m:Int)).f5 (j:Int)).f3.length (CK m j),.bool (Qb (Qa l0 (m:Int)).f5 (j:Int)).f4,.slice (AV m j) (Qb (Qa l0 (m:Int)).f5 (j:Int)).f5.length (CV m j)] 30)).cell? ⟨B0,4,none⟩=some (.int .i64 (Qa l0 (m:Int)).f4):=by simp [World.cell?,hbx2]
     have hb5:(wr.alloc (.cells #[.int .i64 (Qb (Qa l0 (m:Int)).f5 (j:Int)).f0,.int .i64 (Qb (Qa l0 (m:Int)).f5 (j:Int)).f1,.bool (Qb (Qa l0 (m:Int)).f5 (j:Int)).f2,.slice (AK m j) (Qb (Qa l0 (m:Int)).f5 (j:Int)).f3.length (CK m j),.bool (Qb (Qa l0 (m:Int)).f5 (j:Int)).f4,.slice (AV m j) (Qb (Qa l0 (m:Int)).f5 (j:Int)).f5.length (CV m j)] 30)).cell? ⟨B0,5,none⟩=some (.slice (some b3) (Qa l0 (m:Int)).f5.length (CB m)):=by simp [World.cell?,hbx2]
     obtain ⟨fn,tmps,assign,body,hy,hR⟩:=HY.out _ (m,j) (wr.alloc (.cells #[.int .i64 (Qb (Qa l0 (m:Int)).f5 (j:Int)).f0,.int .i64 (Qb (Qa l0 (m:Int)).f5 (j:Int)).f1,.bool (Qb (Qa l0 (m:Int)).f5 (j:Int)).f2,.slice (AK m j) (Qb (Qa l0 (m:Int)).f5 (j:Int)).f3.length (CK m j),.bool (Qb (Qa l0 (m:Int)).f5 (j:Int)).f4,.slice (AV m j) (Qb (Qa l0 (m:Int)).f5 (j:Int)).f5.length (CV m j)] 30)) (HJ.out _ _ _ none hJ2 (World.grownBy_alloc wr _ none) (fun r e=>by cases e)) (ptsAt_lt hlt hltj);dsimp only [encB,encR] at hy;rw [he2] at hy;gi_wp2;have b4:=a6.trans ((Below.refl n₀ wr).alloc (by have:=a6.size;have:=hWB.size;omega) (.cells #[.int .i64 (Qb (Qa l0 (m:Int)).f5 (j:Int)).f0,.int .i64 (Qb (Qa l0 (m:Int)).f5 (j:Int)).f1,.bool (Qb (Qa l0 (m:Int)).f5 (j:Int)).f2,.slice (AK m j) (Qb (Qa l0 (m:Int)).f5 (j:Int)).f3.length (CK m j),.bool (Qb (Qa l0 (m:Int)).f5 (j:Int)).f4,.slice (AV m j) (Qb (Qa l0 (m:Int)).f5 (j:Int)).f5.length (CV m j)] 30));refine hR.mono ?_;rintro e W3 (⟨rfl,hJ3,hk3⟩|⟨rfl,hJx3⟩)
     ·
      gi_wp2;go_roundw
      case rel=>exact ⟨j+1,by omega,by go_num,by rw [ptsAt_succ];exact hJ3,b4.trans hk3.1,hk3.2 _ _ _ hbx2⟩
      case measure=>simp [intOf] <;> omega
     ·
      gi_wp2;refine bodyPost_ret (results_none rfl _ _ _) rfl ?_;exact ⟨⟨_,rfl⟩,.inr ⟨ptsAt l0 m j ++ [(m,j)],by rw [← ptsAt_succ];exact ptsAt_prefix hlt (by omega),hJx3⟩⟩
    ·
     have hje:j=(Qa l0 (m:Int)).f5.length:=by omega
     have hji:¬ ((j:Nat):Int) < ((Qa l0 (m:Int)).f5.length:Int):=by omega
     gi_wp2;go_roundw
     case rel=>exact ⟨m+1,by omega,by go_num,by rw [← ptsAt_full,← hje];exact hJ2,a6⟩
     case measure=>simp [intOf] <;> omega
  ·
   have hme:m=l0.length:=by omega
   have hmi:¬ ((m:Nat):Int) < (l0.length:Int):=by omega
   gi_wp2;go_end0;exact ⟨⟨_,rfl⟩,.inl (by have h:=hJs;rw [hme] at h;exact h)⟩
theorem recs_stops (F:Fence) (n:Nat) (h1:F.fn 70) (hro:F.round=none) (hn : 1≤n) (Bs:Nat) (A0:Option Addr) (c0:Nat) (l0:List S34) {AB:Nat→Option Addr} {CB:Nat→Nat} {AK:Nat→Nat→Option Addr} {CK:Nat→Nat→Nat} {AV:Nat→Nat→Option Addr} {CV:Nat→Nat→Nat}
  (w W0:World) (hP:Places w A0 l0 AB CB AK CK AV CV) (hmax:l0.length≤9223372036854775807) (hWB:Below w.heap.size w W0) (hc:W0.cell? ⟨Bs,0,none⟩=some (.slice A0 l0.length c0)) :
  SeqStopsK F n Try.prog 70 #[.pointer (some ⟨Bs,0,none⟩)] (fun x:Nat×Nat=>#[encB l0 AB CB x.1,encR l0 AK CK AV CV x.1 x.2]) (KpR w.heap.size) (fun ys=>ys=pts l0) (fun pre=>pre <+: pts l0) (pts l0).length W0:=
 fun l J Jx W hW hJ _ hY h0=>recs1_in F n h1 hro hn l Bs w.heap.size A0 c0 l0 w W hP hmax rfl J Jx hJ hY ((hW.cell (zzn W0 _ hc)).trans hc) (hWB.trans (hW.mono hWB.size)) h0
set_option maxHeartbeats 1000000 in
theorem recs_in (F:Fence) (n:Nat) (h6:F.fn 41) (hro:F.round=none) (A0:Option Addr) (len cap:Nat) (w:World) :
  CallsIn F n Try.prog 41 #[.slice A0 len cap] w fun e w'=>e = .returned (.func (.func 70) #[] #[.pointer (some ⟨w.heap.size,0,none⟩)])∧w' = w.alloc (.cells #[.slice A0 len cap] 23):=by
 refine callsIn_of_wp Try.func41 rfl h6 ?_ hro;simp only [Try.ntmps41,List.size_toArray,List.length_cons,List.length_nil,Nat.reduceAdd,Nat.reduceSub,Array.replicate_succ,Array.replicate_zero,List.push_toArray,List.append_toArray,List.nil_append,List.cons_append];gi_wp2;go_ret;exact ⟨rfl,rfl⟩
end
section
open Go.Shelf
variable {F:Fence} {n:Nat} {P:Program} {ops:Array Oper} {Q:Exit→Act→World→Prop}
section
variable {o:Oper} {a:Act} {W:World} {K:Act→World→Prop} {α:Type}
end
end
section
open Go.Shelf
variable {F:Fence} {n:Nat} {P:Program} {ops:Array Oper} {Q:Exit→Act→World→Prop}
theorem wpAnyIn_inv3 {md:Region.Mode} (Inv:Array Bool→Act→World→Prop) (todo:Array Bool→Nat)
  (h:∀ listed a w,Inv listed a w→(Region.ready md ops listed = []→Q .normal a w)∧∀ i∈Region.ready md ops listed,wpOpIn F n P ops Q i (fun a' w'=>Inv (listed.setIfInBounds i true) a' w') a w)
  (h0:∀ listed a w,Inv listed a w→todo listed=0→Region.ready md ops listed = [])
  (hdec:∀ listed i a w,Inv listed a w→i∈Region.ready md ops listed→todo (listed.setIfInBounds i true) < todo listed) :
  ∀ (fuel:Nat) (listed:Array Bool) (a:Act) (w:World),Inv listed a w→todo listed≤fuel→wpAnyIn F n P md ops Q fuel listed a w
 | 0,listed,a,w,hi,ht=>by
  have hr:=h0 listed a w hi (by omega)
  exact ⟨hr,(h listed a w hi).1 hr⟩
 | fuel+1,listed,a,w,hi,ht=>by
  refine ⟨(h listed a w hi).1,fun i hm=>?_⟩
  have hd:=hdec listed i a w hi hm
  refine wpOpIn_mono ?_ ((h listed a w hi).2 i hm)
  intro a' w' hi'
  exact wpAnyIn_inv3 Inv todo h h0 hdec fuel _ a' w' hi' (by omega)
def stTab {σ:Type} [DecidableEq σ] (ops:Array Oper) (all:List σ) (st : σ→Array Bool) (go : σ→List (Nat×σ)):Bool:=
 all.all fun s=>(Region.ready .any ops (st s)==(go s).map (·.1))&&((go s).all fun p=>decide (p.2∈all)&&(((st s).setIfInBounds p.1 true==st p.2)&&decide ((st p.2).toList.count false < (st s).toList.count false)))&&(decide ((st s).toList.count false≠0)||(go s).isEmpty)
theorem wpAnyIn_states {σ:Type} [DecidableEq σ] (all:List σ) (st : σ→Array Bool) (go : σ→List (Nat×σ)) (htab:stTab ops all st go=true) (I : σ→Act→World→Prop)
  (hdone:∀ s∈all,go s = []→∀ a w,I s a w→Q .normal a w)
  (hstep:∀ s∈all,∀ p∈go s,∀ a w,I s a w→wpOpIn F n P ops Q p.1 (fun a' w'=>I p.2 a' w') a w)
  (s0 : σ) (hs0:s0∈all) (fuel:Nat) (hf:(st s0).toList.count false≤fuel) {a:Act} {w:World} (hi:I s0 a w):wpAnyIn F n P .any ops Q fuel (st s0) a w:=by
 have tab:∀ s∈all,Region.ready .any ops (st s)=(go s).map (·.1)∧(∀ p∈go s,p.2∈all∧(st s).setIfInBounds p.1 true=st p.2∧(st p.2).toList.count false < (st s).toList.count false)∧((st s).toList.count false=0→go s = []):=by
  intro s hs;have h:=List.all_eq_true.mp htab s hs;simp only [Bool.and_eq_true,Bool.or_eq_true,decide_eq_true_eq] at h;obtain ⟨⟨h1,h2⟩,h3⟩:=h;refine ⟨eq_of_beq h1,fun p hp=>?_,fun h0=>?_⟩
  ·
   have:=List.all_eq_true.mp h2 p hp;simp only [Bool.and_eq_true,decide_eq_true_eq] at this;exact ⟨this.1,eq_of_beq this.2.1,this.2.2⟩
  ·
   rcases h3 with h3|h3
   ·
    exact absurd h0 h3
   ·
    simpa using h3
 refine wpAnyIn_inv3 (fun l a w=>∃ s∈all,l=st s∧I s a w) (fun l=>l.toList.count false) ?_ ?_ ?_ _ _ _ _ ⟨s0,hs0,rfl,hi⟩ hf
 ·
  rintro listed a w ⟨s,hs,rfl,hI⟩;obtain ⟨t1,t2,t3⟩:=tab s hs;rw [t1];refine ⟨fun e=>hdone s hs (by simpa using e) a w hI,fun i hm=>?_⟩;obtain ⟨p,hp,rfl⟩:=List.mem_map.1 hm;obtain ⟨p1,p2,p3⟩:=t2 p hp;exact wpOpIn_mono (fun a' w' h=>⟨p.2,p1,p2,h⟩) (hstep s hs p hp a w hI)
 ·
  rintro listed a w ⟨s,hs,rfl,hI⟩ h0;obtain ⟨t1,t2,t3⟩:=tab s hs;rw [t1,t3 h0];rfl
 ·
  rintro listed i a w ⟨s,hs,rfl,hI⟩ hm;obtain ⟨t1,t2,t3⟩:=tab s hs;rw [t1] at hm;obtain ⟨p,hp,rfl⟩:=List.mem_map.1 hm;obtain ⟨p1,p2,p3⟩:=t2 p hp;rw [p2];exact p3
abbrev St3:=Option (Nat×Nat×Nat)
def st132:St3→Array Bool
 | none=>(zzB 7 127)
 | some (a,b,c)=>#[decide (1≤a),decide (1≤b),decide (2≤b),decide (3≤b),decide (1≤c),decide (2≤c),false]
def go132:St3→List (Nat×St3)
 | none=>[]
 | some (a,b,c)=>(if a=0 then [(0,some (1,b,c))] else [])++((if b=0 then [(1,some (a,1,c))] else if b=1 then [(2,some (a,2,c))] else if b=2 then [(3,some (a,3,c))] else [])++((if c=0 then [(4,some (a,b,1))] else if c=1 then [(5,some (a,b,2))] else [])++(if a=1∧b=3∧c=2 then [(6,none)] else [])))
def all132:List St3:=none::(List.range 2).flatMap fun a=>(List.range 4).flatMap fun b=>(List.range 3).map fun c=>some (a,b,c)
theorem wpAnyIn_132 (htab:stTab ops all132 st132 go132=true) (I:Nat→Nat→Nat→Act→World→Prop) (J:Act→World→Prop)
  (hdone:∀ a w,J a w→Q .normal a w)
  (s0:∀ y z a w,I 0 y z a w→wpOpIn F n P ops Q 0 (fun a' w'=>I 1 y z a' w') a w)
  (s1:∀ x z a w,I x 0 z a w→wpOpIn F n P ops Q 1 (fun a' w'=>I x 1 z a' w') a w)
  (s2:∀ x z a w,I x 1 z a w→wpOpIn F n P ops Q 2 (fun a' w'=>I x 2 z a' w') a w)
  (s3:∀ x z a w,I x 2 z a w→wpOpIn F n P ops Q 3 (fun a' w'=>I x 3 z a' w') a w)
  (s4:∀ x y a w,I x y 0 a w→wpOpIn F n P ops Q 4 (fun a' w'=>I x y 1 a' w') a w)
  (s5:∀ x y a w,I x y 1 a w→wpOpIn F n P ops Q 5 (fun a' w'=>I x y 2 a' w') a w)
  (s6:∀ a w,I 1 3 2 a w→wpOpIn F n P ops Q 6 (fun a' w'=>J a' w') a w)
  {a:Act} {w:World} (hi:I 0 0 0 a w):wpAnyIn F n P .any ops Q 7 (zzB 7 0) a w:=by
 refine wpAnyIn_states all132 st132 go132 htab (fun s a w=>match s with
  | none=>J a w
  | some (x,y,z)=>I x y z a w) ?_ ?_ (some (0,0,0)) (by decide) 7 (by decide) hi
 ·
  rintro s hs hg a w hI;cases s with
  | none=>exact hdone a w hI
  | some p=>
   obtain ⟨x,y,z⟩:=p;exfalso;simp only [go132,List.append_eq_nil_iff] at hg;obtain ⟨g1,g2,g3,g4⟩:=hg;simp only [all132,List.mem_cons,List.mem_flatMap,List.mem_map,List.mem_range,reduceCtorEq,false_or] at hs;obtain ⟨a',ha,b',hb,c',hc,e⟩:=hs;cases e;have h1:x=1:=by
    by_cases h:x=0
    ·
     rw [if_pos h] at g1;cases g1
    ·
     omega
   have h2:y=3:=by
    by_cases h:y=0
    ·
     rw [if_pos h] at g2;cases g2
    ·
     by_cases h' : y=1
     ·
      rw [if_neg h,if_pos h'] at g2;cases g2
     ·
      by_cases h'' : y=2
      ·
       rw [if_neg h,if_neg h',if_pos h''] at g2;cases g2
      ·
       omega
   have h3:z=2:=by
    by_cases h:z=0
    ·
     rw [if_pos h] at g3;cases g3
    ·
     by_cases h' : z=1
     ·
      rw [if_neg h,if_pos h'] at g3;cases g3
     ·
      omega
   rw [if_pos ⟨h1,h2,h3⟩] at g4;cases g4
 ·
  rintro s hs p hp a w hI;cases s with
  | none=>simp [go132] at hp
  | some q=>
   obtain ⟨x,y,z⟩:=q;simp only [go132,List.mem_append] at hp;rcases hp with hp|hp|hp|hp
   ·
    split at hp
    ·
     obtain rfl:=List.mem_singleton.1 hp;subst x;exact s0 y z a w hI
    ·
     cases hp
   ·
    split at hp
    ·
     obtain rfl:=List.mem_singleton.1 hp;subst y;exact s1 x z a w hI
    ·
     split at hp
     ·
      obtain rfl:=List.mem_singleton.1 hp;subst y;exact s2 x z a w hI
     ·
      split at hp
      ·
       obtain rfl:=List.mem_singleton.1 hp;subst y;exact s3 x z a w hI
      ·
       cases hp
   ·
    split at hp
    ·
     obtain rfl:=List.mem_singleton.1 hp;subst z;exact s4 x y a w hI
    ·
     split at hp
     ·
      obtain rfl:=List.mem_singleton.1 hp;subst z;exact s5 x y a w hI
     ·
      cases hp
   ·
    split at hp
    ·
     rename_i h;obtain ⟨rfl,rfl,rfl⟩:=h;obtain rfl:=List.mem_singleton.1 hp;exact s6 a w hI
    ·
     cases hp
abbrev St20:=Nat×Nat×Nat×Nat×Nat
def st20:St20→Array Bool
 | (0,x,_,_,_)=>#[decide (1≤x),decide (2≤x),false,false,false,false,false,false,false,false,false,false,false,false,false,false,false,false,false,false]
 | (1,x,y,z,d)=>#[true,true,true,decide (1≤x),decide (1≤y),decide (2≤y),decide (3≤y),decide (1≤d),decide (1≤z),decide (2≤z),false,false,false,false,false,false,false,false,false,false]
 | (_,x,_,_,_)=>#[true,true,true,true,true,true,true,true,true,true,decide (1≤x),decide (2≤x),decide (3≤x),decide (4≤x),decide (5≤x),decide (6≤x),decide (7≤x),decide (8≤x),decide (9≤x),decide (10≤x)]
def go20:St20→List (Nat×St20)
 | (0,x,_,_,_)=>if x=0 then [(0,(0,1,0,0,0))] else if x=1 then [(1,(0,2,0,0,0))] else [(2,(1,0,0,0,0))]
 | (1,x,y,z,d)=>(if x=0 then [(3,(1,1,y,z,d))] else [])++((if y=0 then [(4,(1,x,1,z,d))] else if y=1 then [(5,(1,x,2,z,d))] else if y=2 then [(6,(1,x,3,z,d))] else [])++((if x=1∧y=3∧d=0 then [(7,(1,x,y,z,1))] else [])++((if z=0 then [(8,(1,x,y,1,d))] else if z=1 then [(9,(1,x,y,2,d))] else [])++(if d=1∧z=2 then [(10,(2,1,0,0,0))] else []))))
 | (_,x,_,_,_)=>if x < 10 then [(10+x,(2,x+1,0,0,0))] else []
def all20:List St20:=(List.range 3).map (fun x=>(0,x,0,0,0))++(((List.range 2).flatMap fun x=>(List.range 4).flatMap fun y=>(List.range 3).map fun z=>(1,x,y,z,0))++((List.range 3).map (fun z=>(1,1,3,z,1))++(List.range 10).map (fun x=>(2,x+1,0,0,0))))
theorem wpAnyIn_20 (htab:stTab ops all20 st20 go20=true) (I0:Nat→Act→World→Prop) (I1:Nat→Nat→Nat→Nat→Act→World→Prop) (I2:Nat→Act→World→Prop)
  (hdone:∀ a w,I2 10 a w→Q .normal a w)
  (s0:∀ a w,I0 0 a w→wpOpIn F n P ops Q 0 (fun a' w'=>I0 1 a' w') a w)
  (s1:∀ a w,I0 1 a w→wpOpIn F n P ops Q 1 (fun a' w'=>I0 2 a' w') a w)
  (s2:∀ a w,I0 2 a w→wpOpIn F n P ops Q 2 (fun a' w'=>I1 0 0 0 0 a' w') a w)
  (s3:∀ y z d a w,I1 0 y z d a w→wpOpIn F n P ops Q 3 (fun a' w'=>I1 1 y z d a' w') a w)
  (s4:∀ x z d a w,I1 x 0 z d a w→wpOpIn F n P ops Q 4 (fun a' w'=>I1 x 1 z d a' w') a w)
  (s5:∀ x z d a w,I1 x 1 z d a w→wpOpIn F n P ops Q 5 (fun a' w'=>I1 x 2 z d a' w') a w)
  (s6:∀ x z d a w,I1 x 2 z d a w→wpOpIn F n P ops Q 6 (fun a' w'=>I1 x 3 z d a' w') a w)
  (s7:∀ z a w,I1 1 3 z 0 a w→wpOpIn F n P ops Q 7 (fun a' w'=>I1 1 3 z 1 a' w') a w)
  (s8:∀ x y d a w,I1 x y 0 d a w→wpOpIn F n P ops Q 8 (fun a' w'=>I1 x y 1 d a' w') a w)
  (s9:∀ x y d a w,I1 x y 1 d a w→wpOpIn F n P ops Q 9 (fun a' w'=>I1 x y 2 d a' w') a w)
  (s10:∀ a w,I1 1 3 2 1 a w→wpOpIn F n P ops Q 10 (fun a' w'=>I2 1 a' w') a w)
  (s11:∀ a w,I2 1 a w→wpOpIn F n P ops Q 11 (fun a' w'=>I2 2 a' w') a w)
  (s12:∀ a w,I2 2 a w→wpOpIn F n P ops Q 12 (fun a' w'=>I2 3 a' w') a w)
  (s13:∀ a w,I2 3 a w→wpOpIn F n P ops Q 13 (fun a' w'=>I2 4 a' w') a w)
  (s14:∀ a w,I2 4 a w→wpOpIn F n P ops Q 14 (fun a' w'=>I2 5 a' w') a w)
  (s15:∀ a w,I2 5 a w→wpOpIn F n P ops Q 15 (fun a' w'=>I2 6 a' w') a w)
  (s16:∀ a w,I2 6 a w→wpOpIn F n P ops Q 16 (fun a' w'=>I2 7 a' w') a w)
  (s17:∀ a w,I2 7 a w→wpOpIn F n P ops Q 17 (fun a' w'=>I2 8 a' w') a w)
  (s18:∀ a w,I2 8 a w→wpOpIn F n P ops Q 18 (fun a' w'=>I2 9 a' w') a w)
  (s19:∀ a w,I2 9 a w→wpOpIn F n P ops Q 19 (fun a' w'=>I2 10 a' w') a w)
  {a:Act} {w:World} (hi:I0 0 a w):wpAnyIn F n P .any ops Q 20 (zzB 20 0) a w:=by
 refine wpAnyIn_states all20 st20 go20 htab (fun s a w=>match s with
  | (0,x,_,_,_)=>I0 x a w
  | (1,x,y,z,d)=>I1 x y z d a w
  | (_,x,_,_,_)=>I2 x a w) ?_ ?_ (0,0,0,0,0) (by decide) 20 (by decide) hi
 ·
  have h20:∀ s∈all20,go20 s = []→s=(2,10,0,0,0):=by decide +kernel
  intro s hs hg a w hI;rw [h20 s hs hg] at hI;exact hdone a w hI
 ·
  rintro ⟨p0,x,y,z,d⟩ hs p hp a w hI;simp only [all20,List.mem_append,List.mem_map,List.mem_range,List.mem_flatMap,Prod.mk.injEq] at hs;rcases hs with ⟨x',hx',rfl,rfl,rfl,rfl,rfl⟩|⟨x',hx',y',hy',z',hz',rfl,rfl,rfl,rfl,rfl⟩|⟨z',hz',rfl,rfl,rfl,rfl,rfl⟩|⟨x',hx',rfl,rfl,rfl,rfl,rfl⟩
  ·
   simp only [go20] at hp;split at hp
   ·
    obtain rfl:=List.mem_singleton.1 hp;subst x';exact s0 a w hI
   ·
    split at hp
    ·
     obtain rfl:=List.mem_singleton.1 hp;subst x';exact s1 a w hI
    ·
     obtain rfl:=List.mem_singleton.1 hp;obtain rfl:x' = 2:=by omega
     exact s2 a w hI
  ·
   simp only [go20,List.mem_append] at hp;rcases hp with hp|hp|hp|hp|hp
   ·
    split at hp
    ·
     obtain rfl:=List.mem_singleton.1 hp;subst x';exact s3 y' z' 0 a w hI
    ·
     cases hp
   ·
    split at hp
    ·
     obtain rfl:=List.mem_singleton.1 hp;subst y';exact s4 x' z' 0 a w hI
    ·
     split at hp
     ·
      obtain rfl:=List.mem_singleton.1 hp;subst y';exact s5 x' z' 0 a w hI
     ·
      split at hp
      ·
       obtain rfl:=List.mem_singleton.1 hp;subst y';exact s6 x' z' 0 a w hI
      ·
       cases hp
   ·
    split at hp
    ·
     rename_i h;obtain ⟨rfl,rfl,-⟩:=h;obtain rfl:=List.mem_singleton.1 hp;exact s7 z' a w hI
    ·
     cases hp
   ·
    split at hp
    ·
     obtain rfl:=List.mem_singleton.1 hp;subst z';exact s8 x' y' 0 a w hI
    ·
     split at hp
     ·
      obtain rfl:=List.mem_singleton.1 hp;subst z';exact s9 x' y' 0 a w hI
     ·
      cases hp
   ·
    rw [if_neg (by omega)] at hp;cases hp
  ·
   simp only [go20,List.mem_append] at hp;rcases hp with hp|hp|hp|hp|hp
   ·
    rw [if_neg (by omega)] at hp;cases hp
   ·
    rw [if_neg (by omega),if_neg (by omega),if_neg (by omega)] at hp;cases hp
   ·
    rw [if_neg (by omega)] at hp;cases hp
   ·
    split at hp
    ·
     obtain rfl:=List.mem_singleton.1 hp;subst z';exact s8 1 3 1 a w hI
    ·
     split at hp
     ·
      obtain rfl:=List.mem_singleton.1 hp;subst z';exact s9 1 3 1 a w hI
     ·
      cases hp
   ·
    split at hp
    ·
     rename_i h;obtain ⟨-,rfl⟩:=h;obtain rfl:=List.mem_singleton.1 hp;exact s10 a w hI
    ·
     cases hp
  ·
   simp only [go20] at hp;split at hp
   ·
    rename_i h;obtain rfl:=List.mem_singleton.1 hp;match x',h,hI with
    | 0,h,hI=>exact s11 a w hI
    | 1,h,hI=>exact s12 a w hI
    | 2,h,hI=>exact s13 a w hI
    | 3,h,hI=>exact s14 a w hI
    | 4,h,hI=>exact s15 a w hI
    | 5,h,hI=>exact s16 a w hI
    | 6,h,hI=>exact s17 a w hI
    | 7,h,hI=>exact s18 a w hI
    | 8,h,hI=>exact s19 a w hI
    | x' + 9,h,hI=>exact absurd h (by omega)
   ·
    cases hp
end
section
open Go.Shelf
attribute [local go_sem] Oper.semAt_some
def okLog (l:List S34):Bool:=decide ((pts l).length≤1000000)&&l.all fun b=>b.f5.all fun r=>(decide (0≤r.f0∧r.f0≤99999)&&decide (r.f3.length≤1000))&&(decide (r.f5.length≤1000)&&(!r.f2||keyOk r.f3))
def rcOf (l:List S34) (x:Nat×Nat):S30:=Qb (Qa l (x.1:Int)).f5 (x.2:Int)
def mkOf (l:List S34) (x:Nat×Nat):Bool:=(Qa l (x.1:Int)).f1
theorem okLog_len {l:List S34} (h:okLog l=true):(pts l).length≤1000000:=by
 unfold okLog at h;rw [Bool.and_eq_true,decide_eq_true_eq] at h;exact h.1
theorem okLog_at {l:List S34} (h:okLog l=true) (x:Nat×Nat):(0≤(rcOf l x).f0∧(rcOf l x).f0≤99999)∧(rcOf l x).f3.length≤1000∧(rcOf l x).f5.length≤1000∧((rcOf l x).f2=true→keyOk (rcOf l x).f3=true):=by
 obtain ⟨i,j⟩:=x;unfold rcOf;dsimp only;by_cases hi:i < l.length
 ·
  by_cases hj:j < (Qa l i).f5.length
  ·
   have h1:Qa l i=l[i]:=by unfold Qa;rw [Int.toNat_natCast,List.getD_eq_getElem?_getD,List.getElem?_eq_getElem hi];rfl
   have h2:Qb (Qa l i).f5 j=(Qa l i).f5[j]:=by unfold Qb;rw [Int.toNat_natCast,List.getD_eq_getElem?_getD,List.getElem?_eq_getElem hj];rfl
   unfold okLog at h;rw [Bool.and_eq_true] at h;have h3:=List.all_eq_true.1 (List.all_eq_true.1 h.2 (Qa l i) (by rw [h1];exact List.getElem_mem hi)) _ (List.getElem_mem hj);rw [h2];simp only [Bool.and_eq_true,decide_eq_true_eq,Bool.or_eq_true,Bool.not_eq_true'] at h3;refine ⟨h3.1.1,h3.1.2,h3.2.1,fun h4=>?_⟩;rcases h3.2.2 with h5|h5
   ·
    rw [h4] at h5;cases h5
   ·
    exact h5
  ·
   rw [rd_none_R hj];exact ⟨by decide,by decide,by decide,by decide⟩
 ·
  rw [rd_none_B hi,rd_none_R (by simp [z34])];exact ⟨by decide,by decide,by decide,by decide⟩
def lastStep (l:List S34) (D:DataW Unit) (x:Nat×Nat):DataW Unit:=if (!mkOf l x&&(rcOf l x).f2)=true then D.put (.string (hexOf (rcOf l x).f3)) (.lit (.int .i64 (rcOf l x).f0)) else D
def lastD (l:List S34) (pre:List (Nat×Nat)):DataW Unit:=pre.foldl (lastStep l) (.map [])
def offStep (l:List S34) (kk:List UInt8) (a:Int) (x:Nat×Nat):Int:=if (!mkOf l x&&((rcOf l x).f2&&decide (hexOf (rcOf l x).f3=kk)))=true then (rcOf l x).f0 else a
def lastOff (l:List S34) (pre:List (Nat×Nat)) (kk:List UInt8):Int:=pre.foldl (offStep l kk) 0
theorem last_fold (l:List S34):∀ (xs:List (Nat×Nat)) (D:DataW Unit) (a:List UInt8→Int),Maps.IsMap D→(∀ kk,D.atKey (.string kk) (.lit (.int .i64 0)) = .lit (.int .i64 (a kk))) →
  ∀ kk,(xs.foldl (lastStep l) D).atKey (.string kk) (.lit (.int .i64 0)) = .lit (.int .i64 (xs.foldl (offStep l kk) (a kk)))
 | [],D,a,hm,h,kk=>h kk
 | x::xs,D,a,hm,h,kk=>by
  rw [List.foldl_cons,List.foldl_cons]
  refine last_fold l xs (lastStep l D x) (fun kk=>offStep l kk (a kk) x) ?_ ?_ kk
  ·
   unfold lastStep
   split
   ·
    exact Maps.IsMap.put hm _ _
   ·
    exact hm
  ·
   intro kk
   unfold lastStep offStep
   by_cases h1:(!mkOf l x&&(rcOf l x).f2)=true
   ·
    rw [if_pos h1]
    rw [Bool.and_eq_true] at h1
    by_cases h2:hexOf (rcOf l x).f3=kk
    ·
     rw [if_pos (by simp [h1.2,h2];simpa using h1.1),← h2]
     exact Maps.atKey_put_same hm (by exact True.intro) _ _
    ·
     rw [if_neg (by simp [h2]),Maps.atKey_put_other (fun e=>h2 (by cases e;rfl))]
     exact h kk
   ·
    rw [if_neg h1,if_neg (fun h3=>h1 (by simp only [Bool.and_eq_true] at h3 ⊢;exact ⟨h3.1,h3.2.1⟩))]
    exact h kk
theorem lastD_at (l:List S34) (pre:List (Nat×Nat)) (kk:List UInt8):(lastD l pre).atKey (.string kk) (.lit (.int .i64 0)) = .lit (.int .i64 (lastOff l pre kk)):=
 last_fold l pre (.map []) (fun _=>0) Maps.isMap_empty (fun kk=>rfl) kk
theorem lastD_snoc (l:List S34) (pre:List (Nat×Nat)) (x:Nat×Nat):lastD l (pre ++ [x])=lastStep l (lastD l pre) x:=by simp [lastD]
theorem allBytes_from (l:List Int) (h:∀ m:Nat,m < l.length→0≤rd l (m:Int)∧rd l (m:Int)≤255) (hl:l.length≤1000):∀ (d i:Nat),l.length - i=d→i≤l.length→Qp.l0 (d+1) l (l.length:Int) (i:Int)=some true
 | 0,i,hd,hi=>by
  simp only [Qp.l0]
  rw [if_neg (by omega)]
 | d+1,i,hd,hi=>by
  have:=h i (by omega)
  have e1:wrap64 ((i:Int)+1)=((i+1:Nat):Int):=by unfold wrap64;omega
  have e2:Rs.f (rd l (i:Int))=some true:=by unfold Rs.f;rw [if_pos (by omega)];simp [this.2]
  have ih:=allBytes_from l h hl d (i+1) (by omega) (by omega)
  unfold Qp.l0
  rw [if_pos (by omega),if_pos (by omega),e2,Option.bind_some,if_pos rfl,e1,if_pos (by omega)]
  exact ih
theorem allBytes_true {l:List Int} (h:keyOk l=true):Qp.f (l.length+1) l=some true:=by
 unfold Qp.f;exact allBytes_from l (keyOk_at h) (keyOk_len h) l.length 0 (by omega) (by omega)
theorem bytesText_f {l:List Int} (h:keyOk l=true):Rq.f (l.length+1) l=some ⟨(hexOf l).toArray⟩:=by
 unfold Rq.f;rw [allBytes_true h];simp only [Option.bind_some,if_true,h]
theorem ownsMap_below {W W' : World} {b n:Nat} {D:DataW Unit} {P:Program} {k:TypeId} {R:Value→Option (DataW Unit×List MemPlace)} (h:W.ownsMap P k R b n D) (hb:Below W.heap.size W W'):W'.ownsMap P k R b n D:=by
 obtain ⟨es,clock,h1,F,hs,hD⟩:=h;exact ⟨es,clock,(hb.block _ (Array.getElem?_eq_some_iff.1 h1).1).trans h1,F,hs,hD⟩
theorem Boxed.of_below {W W' : World} {B:Nat} {t:TypeId} {v:Value} (h:Boxed W B t v) (hb:Below W.heap.size W W'):Boxed W' B t v:=(hb.block _ (Array.getElem?_eq_some_iff.1 h).1).trans h
theorem KeepsFrom.of_below {B:Nat} {W W' : World} (h:Below W.heap.size W W'):KeepsFrom B W W':=⟨h.size,fun i o hB hi ho=>(h.block i (Array.getElem?_eq_some_iff.1 hi).1).trans hi⟩
theorem S_mapUpdate_in {F:Fence} {n:Nat} {P:Program} {W:World} {o:Oper} {a:Act} {K:Act→World→Prop} {Q:Exit→Act→World→Prop} (m x v:Operand) (t:TypeId) (hop:o.op=Op.mapUpdate t m x v)
  (k e:TypeId) (KD:Maps.Keyed P k) (ht:P.underlying t=some (.map k e)) (R:Value→Option (DataW Unit×List MemPlace)) (b nn:Nat) (D:DataW Unit)
  (hm:a.eval m = .map (some b)) (hown:W.ownsMap P k R b nn D) (hn:nn < maxLen) (key val:Value) (kl:Lit) (hx:a.eval x=key) (hv:a.eval v=val) (hkey:keyOf P k key=some kl)
  (d:DataW Unit) (ps:List MemPlace) (hval:R val=some (d,ps))
  (h:∀ w',w'.ownsMap P k R b (nn+1) (D.put kl d)→W.grownBy w' (some b)→K (a.put o.dst undef) w'):Oper.wpIn F n P o a W K Q:=by
 obtain ⟨w',hrun,r1,r2⟩:=hown.update KD ht hn hkey hval;unfold Oper.wpIn;refine ⟨by simp [Oper.about,hop],?_⟩;rw [Oper.semAt_plain F _ _ (by rw [hop];intro c hc';cases hc')];simp [execOp,hop,hm,hx,hv,hrun,Result.andThen];exact h w' r1 r2
set_option maxHeartbeats 4000000 in
theorem stayer_calls (A0:Option Addr) (c0:Nat) (l0:List (S34)) (gone:Bool) (w:World) (a0:Kd.C k34 w A0 l0.length l0) (a1:l0.length≤c0) (hok:okLog l0=true) :
  Calls Try.prog 40 #[.slice A0 l0.length c0,.bool gone] w fun e w'=>∃ Bm Bg bm,e = .returned (.func (.func 69) #[] #[.pointer (some ⟨Bm,0,none⟩),.pointer (some ⟨Bg,0,none⟩)])∧w.heap.size≤Bm∧w.heap.size≤Bg∧w.heap.size≤bm∧Boxed w' Bm 80 (.map (some bm))∧Boxed w' Bg 4 (.bool gone)∧w'.ownsMap Try.prog 9 (plainElem Try.prog 3) bm (pts l0).length (lastD l0 (pts l0))∧Below w.heap.size w w':=by
 have hm0:l0.length≤9223372036854775807:=a0.2.1;obtain ⟨AB,CB,AK,CK,AV,CV,hP⟩:=places_of a0;have HP:=zzm hP;have a4:=zzm a0;have a5:=zzm a1;have HOK:=zzm hok;clear a0 a1 hP hok;refine callsIn_wide (n:=8).1 ?_;have hro:(Fence.wide).round=none:=rfl;refine callsIn_of_wp_marks Try.func40 rfl trivial ?_ hro;simp only [Try.ntmps40,List.size_toArray,List.length_cons,List.length_nil,Nat.reduceAdd,Nat.reduceSub,Array.replicate_succ,Array.replicate_zero,List.push_toArray,List.append_toArray,List.nil_append,List.cons_append];have hmm:=@run_makeMap Try.prog;gi_wp2_with (refine ⟨trivial,?_⟩;gi_at_call 41;refine (recs_in Fence.wide 7 trivial hro A0 _ _ _).mono ?_;rintro e w3 ⟨rfl,rfl⟩;dsimp only);obtain ⟨W0,hW0⟩:∃ W0,W0=((((w.alloc (.cells #[.bool gone] 4)).alloc (.map #[] 0)).alloc (.cells #[.map (some (w.heap.size+1))] 80)).alloc (.cells #[.slice A0 l0.length c0] 23)):=⟨_,rfl⟩;obtain ⟨Bs,hBs⟩:∃ Bs,Bs=(((w.alloc (.cells #[.bool gone] 4)).alloc (.map #[] 0)).alloc (.cells #[.map (some (w.heap.size+1))] 80)).heap.size:=⟨_,rfl⟩;have hB0:Below w.heap.size w W0:=by rw [hW0];exact ((((Below.refl _ w).alloc (Nat.le_refl _) _).alloc (by simp) _).alloc (by simp;omega) _).alloc (by simp;omega) _
 have hsz0:W0.heap.size=w.heap.size+4:=by rw [hW0];simp
 have hb1:Boxed W0 w.heap.size 4 (.bool gone):=by rw [hW0];exact (((Boxed.new w 4 _).alloc _).alloc _).alloc _
 have hb2:Boxed W0 (w.heap.size+1+1) 80 (.map (some (w.heap.size+1))):=by
  have:=(Boxed.new ((w.alloc (.cells #[.bool gone] 4)).alloc (.map #[] 0)) 80 (.map (some (w.heap.size+1)))).alloc (.cells #[.slice A0 l0.length c0] 23);simp only [World.size_alloc] at this;rw [hW0];exact this
 have hsb:Boxed W0 Bs 23 (.slice A0 l0.length c0):=by rw [hW0,hBs];exact Boxed.new _ _ _
 have hown0:W0.ownsMap Try.prog 9 (plainElem (H:=Unit) Try.prog 3) (w.heap.size+1) 0 (.map []):=by
  have:=((World.ownsMap_made (w.alloc (.cells #[.bool gone] 4)) Try.prog 9 (plainElem (H:=Unit) Try.prog 3)).alloc (.cells #[.map (some (w.heap.size+1))] 80)).alloc (.cells #[.slice A0 l0.length c0] 23);simp only [World.size_alloc] at this;rw [hW0];exact this
 rw [← hW0,← hBs];clear hW0 hBs;refine wpIn_rangeFunc_ownH rfl (by omega) (gf:=70) (lb:=#[.pointer (some ⟨Bs,0,none⟩)]) rfl trivial (enters_of Try.func70 (by kernel_rfl) rfl)
  (recs_stops Fence.wide _ trivial rfl (by omega) Bs A0 c0 l0 w W0 HP.out hm0 hB0 hsb.cell) KpR.t (KpR.b hB0.size) (Below.refl _ _) (fun _=>rfl)
  (fun pre W=>W.ownsMap Try.prog 9 (plainElem Try.prog 3) (w.heap.size+1) pre.length (lastD l0 pre)∧Boxed W (w.heap.size+1+1) 80 (.map (some (w.heap.size+1)))∧Boxed W w.heap.size 4 (.bool gone)∧Below w.heap.size w W)
  (fun _ _ _=>False)
  (fun s X Y row hs hg hr=>by
   obtain ⟨e1,e2,e3,e4⟩:=hs;have hc:∀ r,row=some r→∃ o:Obj,X.heap[r]? = some o∧o.isCells=false:=fun r e=>(hr r e).2;exact ⟨e1.kept hg (fun e=>by have:=(hr _ e.symm).1;omega),boxed_own _ _ (fun _:Unit=>_) () X Y row e2 hg hc,boxed_own _ _ (fun _:Unit=>_) () X Y row e3 hg hc,ownFrom_below (Nat.le_refl _) hB0.size () X Y row e4 hg hr⟩)
  (fun _ _ _ _ _ hs _ _=>hs)
  ⟨hown0,hb2,hb1,hB0⟩
  (fun x a' W=>∃ Bx,W.heap[Bx]? = some (.cells #[.bool (Qa l0 (x.1:Int)).f0,.bool (Qa l0 (x.1:Int)).f1,.int .i64 (Qa l0 (x.1:Int)).f2,.int .i64 (Qa l0 (x.1:Int)).f3,.int .i64 (Qa l0 (x.1:Int)).f4,.slice (AB x.1) (Qa l0 (x.1:Int)).f5.length (CB x.1)] 34 (0,0))∧W.heap[Bx+1]? = some (.cells #[.int .i64 (rcOf l0 x).f0,.int .i64 (rcOf l0 x).f1,.bool (rcOf l0 x).f2,.slice (AK x.1 x.2) (rcOf l0 x).f3.length (CK x.1 x.2),.bool (rcOf l0 x).f4,.slice (AV x.1 x.2) (rcOf l0 x).f5.length (CV x.1 x.2)] 30 (0,0))∧a' = { tmps:=#[.slice A0 l0.length c0,.bool gone,undef,.pointer (some ⟨w.heap.size,0,none⟩),.nilFunc,.pointer (some ⟨w.heap.size+1+1,0,none⟩),.pointer (some ⟨Bx,0,none⟩),.pointer (some ⟨Bx+1,0,none⟩),.map (some (w.heap.size+1)),.slice A0 l0.length c0,.func (.func 70) #[] #[.pointer (some ⟨Bs,0,none⟩)],encB l0 AB CB x.1,encR l0 AK CK AV CV x.1 x.2,undef,undef,undef,undef,undef,undef,undef,undef,undef,undef,undef,undef,undef,undef],defers:=[] })
  (fun x a' _ X Y row hs hg hr=>by
   obtain ⟨Bx,e1,e2,e3⟩:=hs;have hne:∀ k cs t f,X.heap[k]? = some (.cells cs t f)→some k≠row:=fun k cs t f h e=>by obtain ⟨o,ho,hoc⟩:=(hr k e.symm).2;rw [h] at ho;cases ho;cases hoc
   exact ⟨Bx,(hg.block _ (Array.getElem?_eq_some_iff.1 e1).1 (hne _ _ _ _ e1)).trans e1,(hg.block _ (Array.getElem?_eq_some_iff.1 e2).1 (hne _ _ _ _ e2)).trans e2,e3⟩)
  ?assign ?body ?done ?stop
 case assign=>
  rintro l pre x W K ⟨e1,e2,e3,e4⟩ hK;unfold encB encR;gi_wp2;have a2:=World.alloc_heap_new W (.cells #[.bool (Qa l0 (x.1:Int)).f0,.bool (Qa l0 (x.1:Int)).f1,.int .i64 (Qa l0 (x.1:Int)).f2,.int .i64 (Qa l0 (x.1:Int)).f3,.int .i64 (Qa l0 (x.1:Int)).f4,.slice (AB x.1) (Qa l0 (x.1:Int)).f5.length (CB x.1)] 34);have a3:=World.alloc_heap_new (W.alloc (.cells #[.bool (Qa l0 (x.1:Int)).f0,.bool (Qa l0 (x.1:Int)).f1,.int .i64 (Qa l0 (x.1:Int)).f2,.int .i64 (Qa l0 (x.1:Int)).f3,.int .i64 (Qa l0 (x.1:Int)).f4,.slice (AB x.1) (Qa l0 (x.1:Int)).f5.length (CB x.1)] 34)) (.cells #[.int .i64 (rcOf l0 x).f0,.int .i64 (rcOf l0 x).f1,.bool (rcOf l0 x).f2,.slice (AK x.1 x.2) (rcOf l0 x).f3.length (CK x.1 x.2),.bool (rcOf l0 x).f4,.slice (AV x.1 x.2) (rcOf l0 x).f5.length (CV x.1 x.2)] 30);refine hK _ _ (((KeepsOthers.alloc _ _).trans (KeepsOthers.alloc _ _)).from _) ⟨((Below.refl _ W).alloc e4.size _).alloc (by simp;have:=e4.size;omega) _,(KeepT.alloc _ _).trans (KeepT.alloc _ _)⟩ ?_ ?_
  ·
   exact ⟨(e1.alloc _).alloc _,(e2.alloc _).alloc _,(e3.alloc _).alloc _,(e4.alloc e4.size _).alloc (by simp;have:=e4.size;omega) _⟩
  ·
   exact ⟨W.heap.size,(Below.heap_alloc _ _ _ (by simp)).trans a2,by have h:=a3;simp only [World.size_alloc] at h;exact h,rfl⟩
 case body=>
  rintro l pre x a' W hl ⟨lr,hlr⟩ ⟨e1,e2,e3,e4⟩ ⟨Bx,cB,cR,rfl⟩ hlt;have m1:W.cell? ⟨Bx,1,none⟩=some (.bool (mkOf l0 x)):=by simp [World.cell?,cB];rfl
  have r2:W.cell? ⟨Bx+1,2,none⟩=some (.bool (rcOf l0 x).f2):=by simp [World.cell?,cR]
  have hpl:(pre ++ [x]).length=pre.length+1:=by simp
  have same:(!mkOf l0 x&&(rcOf l0 x).f2)=false→lastD l0 (pre ++ [x])=lastD l0 pre:=fun h=>by rw [lastD_snoc];unfold lastStep;rw [h];rfl
  have stay:(!mkOf l0 x&&(rcOf l0 x).f2)=false→W.ownsMap Try.prog 9 (plainElem (H:=Unit) Try.prog 3) (w.heap.size+1) (pre ++ [x]).length (lastD l0 (pre ++ [x])):=fun h=>by rw [same h,hpl];exact e1.mono (Nat.le_succ _)
  cases hm:mkOf l0 x with
  | true=>
   rw [hm] at m1;have hst:=stay (by simp [hm]);clear same stay;gi_wp2;exact ⟨KeepsFrom.refl _ _,⟨Below.refl _ _,KeepT.refl _ _⟩,hst,e2,e3,e4⟩
  | false=>
   rw [hm] at m1;cases hf:(rcOf l0 x).f2 with
   | false=>
    rw [hf] at r2;have hst:=stay (by simp [hf]);clear same stay;gi_wp2;exact ⟨KeepsFrom.refl _ _,⟨Below.refl _ _,KeepT.refl _ _⟩,hst,e2,e3,e4⟩
   | true=>
    rw [hf] at r2;clear same stay;gi_wp2;have hkey:=(okLog_at HOK.out x).2.2.2 hf;have hoff:=(okLog_at HOK.out x).1;have hBT:=zzm (bytesText_f hkey);have hnx:lastD l0 (pre ++ [x])=(lastD l0 pre).put (.string (hexOf (rcOf l0 x).f3)) (.lit (.int .i64 (rcOf l0 x).f0)):=by rw [lastD_snoc];unfold lastStep;rw [hm,hf];rfl
    have hwf:(Lit.int .i64 (rcOf l0 x).f0).wf=true:=by simp [Lit.wf,IntKind.min,IntKind.max,IntKind.signed,IntKind.bits];omega
    have hplt:pre.length < 1000000:=by have:=okLog_len HOK.out;omega
    have cM:=e2.cell;have hmx:Try.prog.follows .mixedOrders=true:=by kernel_rfl
    obtain ⟨mk,hmk⟩:∃ mk:Value→Value→Value→Value→Value→Value→Act,mk=fun u0 u1 u2 u3 u4 u5=>{ tmps:=#[.slice A0 l0.length c0,.bool gone,undef,.pointer (some ⟨w.heap.size,0,none⟩),.nilFunc,.pointer (some ⟨w.heap.size+1+1,0,none⟩),.pointer (some ⟨Bx,0,none⟩),.pointer (some ⟨Bx+1,0,none⟩),.map (some (w.heap.size+1)),.slice A0 l0.length c0,.func (.func 70) #[] #[.pointer (some ⟨Bs,0,none⟩)],encB l0 AB CB x.1,encR l0 AK CK AV CV x.1 x.2,.pointer (some ⟨Bx,1,none⟩),.bool false,.bool true,.bool true,.pointer (some ⟨Bx+1,2,none⟩),.bool true,.bool true,u0,u1,u2,u3,u4,u5,undef],defers:=[] }:=⟨_,rfl⟩;refine wpIn_region_any hmx (wpAnyIn_132 (by kernel_rfl) (fun p q s a' W'=>∃ u0 u1 u2 u3 u4 u5,a' = mk u0 u1 u2 u3 u4 u5∧Below W.heap.size W W'∧(p=1→u0 = .map (some (w.heap.size+1)))∧(1≤q→u1 = .pointer (some ⟨Bx+1,3,none⟩))∧(2≤q→u2 = .slice (AK x.1 x.2) (rcOf l0 x).f3.length (CK x.1 x.2))∧(3≤q→u3 = .string ⟨(hexOf (rcOf l0 x).f3).toArray⟩)∧(1≤s→u4 = .pointer (some ⟨Bx+1,0,none⟩))∧(2≤s→u5 = .int .i64 (rcOf l0 x).f0))
     (fun a' W'=>(∃ u0 u1 u2 u3 u4 u5,a' = mk u0 u1 u2 u3 u4 u5)∧KeepsFrom W0.heap.size W W'∧KpR w.heap.size W W'∧W'.ownsMap Try.prog 9 (plainElem (H:=Unit) Try.prog 3) (w.heap.size+1) (pre ++ [x]).length (lastD l0 (pre ++ [x]))∧Boxed W' (w.heap.size+1+1) 80 (.map (some (w.heap.size+1)))∧Boxed W' w.heap.size 4 (.bool gone)∧Below w.heap.size w W')
     ?hdone ?s0 ?s1 ?s2 ?s3 ?s4 ?s5 ?s6 ⟨_,_,_,_,_,_,by rw [hmk],?hini,by simp,by simp,by simp,by simp,by simp,by simp⟩)
    case hini=>exact zzb (Below.refl _ W) 1
    case hdone=>
     rintro a' W' ⟨⟨u0,u1,u2,u3,u4,u5,rfl⟩,k1,k2,k3,k4,k5,k6⟩;rw [hmk];gi_wp2;exact ⟨k1,k2,k3,k4,k5,k6⟩
    case s0=>
     rintro q s a' W' ⟨u0,u1,u2,u3,u4,u5,rfl,hb,h0,h1,h2,h3,h4,h5⟩;rw [hmk];refine wpOpIn_step rfl (fun K hK=>?_);have HK:=zzm hK;have cMn:=(hb.cell (zzn W _ cM)).trans cM;clear hK;go_simp;exact HK.out _ _ ⟨_,u1,u2,u3,u4,u5,rfl,hb,fun _=>rfl,h1,h2,h3,h4,h5⟩
    case s1=>
     rintro p s a' W' ⟨u0,u1,u2,u3,u4,u5,rfl,hb,h0,h1,h2,h3,h4,h5⟩;rw [hmk];refine wpOpIn_step rfl (fun K hK=>?_);have HK:=zzm hK;clear hK;go_simp;exact HK.out _ _ ⟨u0,_,u2,u3,u4,u5,rfl,hb,h0,fun _=>rfl,by simp,by simp,h4,h5⟩
    case s2=>
     rintro p s a' W' ⟨u0,u1,u2,u3,u4,u5,rfl,hb,h0,h1,h2,h3,h4,h5⟩;obtain rfl:=h1 (by decide);rw [hmk];refine wpOpIn_step rfl (fun K hK=>?_);have HK:=zzm hK;have hcR:=(hb.block _ (Array.getElem?_eq_some_iff.1 cR).1).trans cR;have q3:W'.cell? ⟨Bx+1,3,none⟩=some (.slice (AK x.1 x.2) (rcOf l0 x).f3.length (CK x.1 x.2)):=by simp [World.cell?,hcR]
     clear hK hcR;go_simp;exact HK.out _ _ ⟨u0,_,_,u3,u4,u5,rfl,hb,h0,fun _=>rfl,fun _=>rfl,by simp,h4,h5⟩
    case s3=>
     rintro p s a' W' ⟨u0,u1,u2,u3,u4,u5,rfl,hb,h0,h1,h2,h3,h4,h5⟩;obtain rfl:=h1 (by decide);obtain rfl:=h2 (by decide);rw [hmk];refine wpOpIn_step rfl (fun K hK=>?_);have HK:=zzm hK;have hKy:=zzm (Kd.C_below (HP.out.key x.1 x.2).2 (e4.trans (hb.mono e4.size)));clear hK;go_simp;gi_wp2_with (refine ⟨trivial,?_⟩;gi_at_call 68;refine (CallsIn.inRound l (callsIn_wide.2 (Rq.calls _ _ _ _ _ _ hKy.out (HP.out.key x.1 x.2).1 hBT.out))).mono ?_;rintro e w7 ⟨rfl,hb7⟩;dsimp only);exact HK.out _ _ ⟨u0,_,_,_,u4,u5,rfl,zzp hb hb7,h0,fun _=>rfl,fun _=>rfl,fun _=>rfl,h4,h5⟩
    case s4=>
     rintro p q a' W' ⟨u0,u1,u2,u3,u4,u5,rfl,hb,h0,h1,h2,h3,h4,h5⟩;rw [hmk];refine wpOpIn_step rfl (fun K hK=>?_);have HK:=zzm hK;clear hK;go_simp;exact HK.out _ _ ⟨u0,u1,u2,u3,_,u5,rfl,hb,h0,h1,h2,h3,fun _=>rfl,by simp⟩
    case s5=>
     rintro p q a' W' ⟨u0,u1,u2,u3,u4,u5,rfl,hb,h0,h1,h2,h3,h4,h5⟩;obtain rfl:=h4 (by decide);rw [hmk];refine wpOpIn_step rfl (fun K hK=>?_);have HK:=zzm hK;have hcR:=(hb.block _ (Array.getElem?_eq_some_iff.1 cR).1).trans cR;have q0:W'.cell? ⟨Bx+1,0,none⟩=some (.int .i64 (rcOf l0 x).f0):=by simp [World.cell?,hcR]
     clear hK hcR;go_simp;exact HK.out _ _ ⟨u0,u1,u2,u3,_,_,rfl,hb,h0,h1,h2,h3,fun _=>rfl,fun _=>rfl⟩
    case s6=>
     rintro a' W' ⟨u0,u1,u2,u3,u4,u5,rfl,hb,h0,h1,h2,h3,h4,h5⟩;obtain rfl:=h0 rfl;obtain rfl:=h3 (by decide);obtain rfl:=h5 (by decide);rw [hmk];have howW:=ownsMap_below e1 hb;refine wpOpIn_step rfl (fun K hK=>?_);rw [if_pos (by rfl)];have hmax:maxLen=9223372036854775807:=rfl;have hkeyo:keyOf Try.prog 9 (.string ⟨(hexOf (rcOf l0 x).f3).toArray⟩)=some (.string (hexOf (rcOf l0 x).f3)):=by
      rw [Go.WideMaps.keyOf_string_mk Try.underlying9 (by have h7:=hexOf_len (rcOf l0 x).f3;have h8:=keyOk_len hkey;show (hexOf (rcOf l0 x).f3).toArray.size≤maxLen;rw [List.size_toArray];omega)]
     refine S_mapUpdate_in (.tmp 20) (.tmp 23) (.tmp 25) 80 rfl 9 3 (Maps.string_keyed Try.underlying9) Try.underlying80 (plainElem Try.prog 3) (w.heap.size+1) pre.length (lastD l0 pre) rfl howW (by omega) _ _ _ rfl rfl hkeyo (.lit (.int .i64 (rcOf l0 x).f0)) [] (plainElem_int Try.underlying3 hwf) ?_;intro w7 ho7 hg7;rw [← hnx] at ho7;have hszW:=zzn W _ cM;have hsz7:=hb.size;obtain ⟨es7,ck7,hmp7,_⟩:=howW;refine hK _ _ ⟨⟨_,_,_,_,_,_,rfl⟩,?_,⟨?_,?_⟩,?_,?_,?_,?_⟩
     ·
      exact (KeepsFrom.of_below hb).trans (KeepsFrom.of_grownBy hg7 (fun j e=>by cases e;omega))
     ·
      exact ((Below.refl _ W).trans (hb.mono e4.size)).grown hg7 (by have:=e4.size;omega) (fun j e=>by cases e;omega)
     ·
      exact (KeepT.of_below hb).trans (KeepT.of_grownBy hg7 (fun j e cs f h=>by cases e;rw [hmp7] at h;cases h))
     ·
      rw [hpl];exact ho7
     ·
      exact (Boxed.of_below e2 hb).kept hg7 (fun e=>by have:=Option.some.inj e;omega)
     ·
      exact (Boxed.of_below e3 hb).kept hg7 (fun e=>by have:=Option.some.inj e;omega)
     ·
      exact (e4.trans (hb.mono e4.size)).grown hg7 (by have:=e4.size;omega) (fun j e=>by cases e;omega)
 case done=>
  rintro D ys W hD rfl ⟨e1,e2,e3,e4⟩ hK;gi_wp2;refine ⟨by simp,.inl ⟨_,_,rfl,run_takeDeferred hK,?_⟩⟩;have hg:=grownBy_putObj' W D (.deferred none);have hne:∀ k cs t f,W.heap[k]? = some (.cells cs t f)→some k≠some D:=fun k cs t f h e=>by cases e;rw [hK] at h;cases h
  refine ⟨_,results_tmp rfl _ _ _,w.heap.size+1+1,w.heap.size,w.heap.size+1,rfl,by omega,by omega,by omega,e2.kept hg (hne _ _ _ _ e2),e3.kept hg (hne _ _ _ _ e3),e1.kept hg (fun e=>by cases e;obtain ⟨_,_,h,_⟩:=e1;rw [hK] at h;cases h),?_⟩;exact e4.trans (belowK_b (w:=w) (Nat.le_refl _) W D _ _ (by omega) hK rfl rfl)
 case stop=>
  rintro D c pre W hD hp h hK;exact h.elim
end
section
open Go.Shelf
attribute [local go_sem] Oper.semAt_some
theorem S_lookup_in {F:Fence} {n:Nat} {P:Program} {W:World} {o:Oper} {a:Act} {K:Act→World→Prop} {Q:Exit→Act→World→Prop} (m x:Operand) (t:TypeId) (hop:o.op=Op.lookup t m x false)
  (k e:TypeId) (q:IntKind) (KD:Maps.Keyed P k) (ht:P.underlying t=some (.map k e)) (he:P.underlying e=some (.int q)) (hz:(zeroValue e).run P W = .ok (.int q 0) W) (b nn:Nat) (D:DataW Unit)
  (hm:a.eval m = .map (some b)) (hown:W.ownsMap P k (plainElem P e) b nn D) (key:Value) (kl:Lit) (hx:a.eval x=key) (hkey:keyOf P k key=some kl)
  (h:∀ c,D.atKey kl (.lit (.int q 0)) = .lit (.int q c)→K (a.put o.dst (.int q c)) W):Oper.wpIn F n P o a W K Q:=by
 obtain ⟨c,hrun,hat,_⟩:=hown.lookup_int KD ht he hz hkey;unfold Oper.wpIn;refine ⟨by simp [Oper.about,hop],?_⟩;rw [Oper.semAt_plain F _ _ (by rw [hop];intro c hc';cases hc')];simp [execOp,hop,hm,hx,hrun,Result.andThen];exact h c hat
set_option maxHeartbeats 4000000 in
theorem stays_calls (b0 b1 r2 r4 gone:Bool) (b2 b3 b4 r0 r1 c:Int) (P3 P5 P6:Option Addr) (n5 q5 q3 n6 q6:Nat) (Bm Bg bm nn:Nat) (key:List Int) (D:DataW Unit) (w:World)
  (hBm:Boxed w Bm 80 (.map (some bm))) (hBg:Boxed w Bg 4 (.bool gone)) (hown:w.ownsMap Try.prog 9 (plainElem Try.prog 3) bm nn D) (hk:(Kd.int .i64).C w P3 key.length key) (hq:key.length≤q3)
  (hok:r2=true→keyOk key=true) (hc:r2=true→D.atKey (.string (hexOf key)) (.lit (.int .i64 0)) = .lit (.int .i64 c)) :
  Calls Try.prog 69 #[.agg #[.bool b0,.bool b1,.int .i64 b2,.int .i64 b3,.int .i64 b4,.slice P5 n5 q5],.agg #[.int .i64 r0,.int .i64 r1,.bool r2,.slice P3 key.length q3,.bool r4,.slice P6 n6 q6],.pointer (some ⟨Bm,0,none⟩),.pointer (some ⟨Bg,0,none⟩)] w fun e w'=>e = .returned (.bool (b1||(r2&&((c==r0)&&(r4||gone)))))∧Below w.heap.size w w':=by
 have cM:=hBm.cell;have cG:=hBg.cell;have HOWN:=zzm hown;have HK3:=zzm hk;have HOK:=zzm hok;have HC:=zzm hc;have hltM:=hBm.lt;have hltG:=hBg.lt;clear hBm hBg hown hk hok hc;refine callsIn_wide (n:=4).1 ?_;have hro:(Fence.wide).round=none:=rfl;refine callsIn_of_wp Try.func69 rfl trivial ?_ hro;simp only [Try.ntmps69,List.size_toArray,List.length_cons,List.length_nil,Nat.reduceAdd,Nat.reduceSub,Array.replicate_succ,Array.replicate_zero,List.push_toArray,List.append_toArray,List.nil_append,List.cons_append];cases b1 with
 | true=>
  gi_wp2;exact bodyPost_ret (results_tmp rfl _ _ _) rfl ⟨rfl,((Below.refl _ w).alloc (Nat.le_refl _) _).alloc (by simp) _⟩
 | false=>
  have hmx:Try.prog.follows .mixedOrders=true:=by kernel_rfl
  gi_wp2;obtain ⟨W,hW⟩:∃ W,W=(w.alloc (.cells #[.bool b0,.bool false,.int .i64 b2,.int .i64 b3,.int .i64 b4,.slice P5 n5 q5] 34)).alloc (.cells #[.int .i64 r0,.int .i64 r1,.bool r2,.slice P3 key.length q3,.bool r4,.slice P6 n6 q6] 30):=⟨_,rfl⟩;have hBW:Below w.heap.size w W:=by rw [hW];exact ((Below.refl _ w).alloc (Nat.le_refl _) _).alloc (by simp) _
  have cR:W.heap[w.heap.size+1]? = some (.cells #[.int .i64 r0,.int .i64 r1,.bool r2,.slice P3 key.length q3,.bool r4,.slice P6 n6 q6] 30 (0,0)):=by
   have h:=World.alloc_heap_new (w.alloc (.cells #[.bool b0,.bool false,.int .i64 b2,.int .i64 b3,.int .i64 b4,.slice P5 n5 q5] 34)) (.cells #[.int .i64 r0,.int .i64 r1,.bool r2,.slice P3 key.length q3,.bool r4,.slice P6 n6 q6] 30);simp only [World.size_alloc] at h;rw [hW];exact h
  rw [← hW];clear hW;obtain ⟨mk,hmk⟩:∃ mk:Value→Value→Value→Value→Value→Value→Value→Value→Value→Value→Value→Value→Value→Value→Value→Value→Value→Value→Value→Value→Act,mk=fun u6 u9 u10 u11 u12 u13 u14 u15 u16 u17 u18 u19 u20 u21 u22 u23 u24 u25 u26 u27=>{ tmps:=#[.agg #[.bool b0,.bool false,.int .i64 b2,.int .i64 b3,.int .i64 b4,.slice P5 n5 q5],.agg #[.int .i64 r0,.int .i64 r1,.bool r2,.slice P3 key.length q3,.bool r4,.slice P6 n6 q6],.pointer (some ⟨Bm,0,none⟩),.pointer (some ⟨Bg,0,none⟩),.pointer (some ⟨w.heap.size,0,none⟩),.pointer (some ⟨w.heap.size+1,0,none⟩),u6,.pointer (some ⟨w.heap.size,1,none⟩),.bool false,u9,u10,u11,u12,u13,u14,u15,u16,u17,u18,u19,u20,u21,u22,u23,u24,u25,u26,u27],defers:=[] }:=⟨_,rfl⟩;cases r2 with
  | false=>
   refine wpIn_region_any hmx (wpAnyIn_20 (by kernel_rfl) (fun k a' W'=>Below w.heap.size w W'∧W'.heap[w.heap.size+1]? = W.heap[w.heap.size+1]?∧a' = (if k=0 then mk (.bool false) undef undef undef undef undef undef undef undef undef undef undef undef undef undef undef undef undef undef undef else if k=1 then mk (.bool false) (.pointer (some ⟨w.heap.size+1,2,none⟩)) undef undef undef undef undef undef undef undef undef undef undef undef undef undef undef undef undef undef else mk (.bool false) (.pointer (some ⟨w.heap.size+1,2,none⟩)) (.bool false) undef undef undef undef undef undef undef undef undef undef undef undef undef undef undef undef undef)) (fun _ _ _ _ a' W'=>Below w.heap.size w W'∧a' = mk (.bool false) (.pointer (some ⟨w.heap.size+1,2,none⟩)) (.bool false) (.bool false) undef undef undef undef undef undef undef undef undef undef undef undef undef undef undef undef) (fun k a' W'=>Below w.heap.size w W'∧a' = (if k=1 then mk (.bool false) (.pointer (some ⟨w.heap.size+1,2,none⟩)) (.bool false) (.bool false) undef undef undef undef undef undef undef undef undef undef undef undef undef undef undef undef else if k=2 then mk (.bool false) (.pointer (some ⟨w.heap.size+1,2,none⟩)) (.bool false) (.bool false) undef undef undef undef undef undef undef undef (.bool false) undef undef undef undef undef undef undef else if k=3 then mk (.bool false) (.pointer (some ⟨w.heap.size+1,2,none⟩)) (.bool false) (.bool false) undef undef undef undef undef undef undef undef (.bool false) (.bool false) undef undef undef undef undef undef else if k=4 then mk (.bool false) (.pointer (some ⟨w.heap.size+1,2,none⟩)) (.bool false) (.bool false) undef undef undef undef undef undef undef undef (.bool false) (.bool false) undef undef undef undef undef undef else if k=5 then mk (.bool false) (.pointer (some ⟨w.heap.size+1,2,none⟩)) (.bool false) (.bool false) undef undef undef undef undef undef undef undef (.bool false) (.bool false) undef undef undef undef undef undef else if k=6 then mk (.bool false) (.pointer (some ⟨w.heap.size+1,2,none⟩)) (.bool false) (.bool false) undef undef undef undef undef undef undef undef (.bool false) (.bool false) undef undef undef undef undef undef else if k=7 then mk (.bool false) (.pointer (some ⟨w.heap.size+1,2,none⟩)) (.bool false) (.bool false) undef undef undef undef undef undef undef undef (.bool false) (.bool false) undef undef undef undef undef undef else if k=8 then mk (.bool false) (.pointer (some ⟨w.heap.size+1,2,none⟩)) (.bool false) (.bool false) undef undef undef undef undef undef undef undef (.bool false) (.bool false) undef undef undef undef undef undef else if k=9 then mk (.bool false) (.pointer (some ⟨w.heap.size+1,2,none⟩)) (.bool false) (.bool false) undef undef undef undef undef undef undef undef (.bool false) (.bool false) undef undef undef undef undef (.bool false) else mk (.bool false) (.pointer (some ⟨w.heap.size+1,2,none⟩)) (.bool false) (.bool false) undef undef undef undef undef undef undef undef (.bool false) (.bool false) undef undef undef undef undef (.bool false))) ?hdone ?s0 ?s1 ?s2 ?s3 ?s4 ?s5 ?s6 ?s7 ?s8 ?s9 ?s10 ?s11 ?s12 ?s13 ?s14 ?s15 ?s16 ?s17 ?s18 ?s19 ?hini)
   case hini=>exact ⟨zzb hBW 1,rfl,by rw [hmk];rfl⟩
   case hdone=>
    rintro a' W' ⟨hb,rfl⟩;simp only [Nat.reduceEqDiff,if_false];rw [hmk];gi_wp2;exact bodyPost_ret (results_tmp rfl _ _ _) rfl ⟨rfl,hb⟩
   case s0=>
    rintro a' W' ⟨hb,hw,rfl⟩;simp only [Nat.reduceEqDiff,if_true,if_false];rw [hmk];rw [cR] at hw;skip;refine wpOpIn_step rfl (fun K hK=>?_);have HK:=zzm hK;clear hK;go_simp;exact HK.out _ _ ⟨hb,hw.trans cR.symm,rfl⟩
   case s1=>
    rintro a' W' ⟨hb,hw,rfl⟩;simp only [Nat.reduceEqDiff,if_true,if_false];rw [hmk];rw [cR] at hw;have q2:W'.cell? ⟨w.heap.size+1,2,none⟩=some (.bool false):=by simp [World.cell?,hw]
    refine wpOpIn_step rfl (fun K hK=>?_);have HK:=zzm hK;clear hK;go_simp;exact HK.out _ _ ⟨hb,hw.trans cR.symm,rfl⟩
   case s2=>
    rintro a' W' ⟨hb,hw,rfl⟩;simp only [Nat.reduceEqDiff,if_true,if_false];rw [hmk];rw [cR] at hw;skip;refine wpOpIn_step rfl (fun K hK=>?_);have HK:=zzm hK;clear hK;go_simp;exact HK.out _ _ ⟨hb,rfl⟩
   case s3=>
    rintro y z d a' W' ⟨hb,rfl⟩;skip;rw [hmk];refine wpOpIn_step rfl (fun K hK=>?_);have HK:=zzm hK;clear hK;go_simp;exact HK.out _ _ ⟨hb,rfl⟩
   case s4=>
    rintro x z d a' W' ⟨hb,rfl⟩;skip;rw [hmk];refine wpOpIn_step rfl (fun K hK=>?_);have HK:=zzm hK;clear hK;go_simp;exact HK.out _ _ ⟨hb,rfl⟩
   case s5=>
    rintro x z d a' W' ⟨hb,rfl⟩;skip;rw [hmk];refine wpOpIn_step rfl (fun K hK=>?_);have HK:=zzm hK;clear hK;go_simp;exact HK.out _ _ ⟨hb,rfl⟩
   case s6=>
    rintro x z d a' W' ⟨hb,rfl⟩;skip;rw [hmk];refine wpOpIn_step rfl (fun K hK=>?_);have HK:=zzm hK;clear hK;go_simp;exact ⟨trivial,HK.out _ _ ⟨hb,rfl⟩⟩
   case s7=>
    rintro z a' W' ⟨hb,rfl⟩;skip;rw [hmk];refine wpOpIn_step rfl (fun K hK=>?_);have HK:=zzm hK;clear hK;go_simp;exact HK.out _ _ ⟨hb,rfl⟩
   case s8=>
    rintro x y d a' W' ⟨hb,rfl⟩;skip;rw [hmk];refine wpOpIn_step rfl (fun K hK=>?_);have HK:=zzm hK;clear hK;go_simp;exact HK.out _ _ ⟨hb,rfl⟩
   case s9=>
    rintro x y d a' W' ⟨hb,rfl⟩;skip;rw [hmk];refine wpOpIn_step rfl (fun K hK=>?_);have HK:=zzm hK;clear hK;go_simp;exact HK.out _ _ ⟨hb,rfl⟩
   case s10=>
    rintro  a' W' ⟨hb,rfl⟩;skip;rw [hmk];refine wpOpIn_step rfl (fun K hK=>?_);have HK:=zzm hK;clear hK;go_simp;exact HK.out _ _ ⟨hb,rfl⟩
   case s11=>
    rintro  a' W' ⟨hb,rfl⟩;simp only [Nat.reduceEqDiff,if_true,if_false];rw [hmk];refine wpOpIn_step rfl (fun K hK=>?_);have HK:=zzm hK;clear hK;go_simp;exact HK.out _ _ ⟨hb,rfl⟩
   case s12=>
    rintro  a' W' ⟨hb,rfl⟩;simp only [Nat.reduceEqDiff,if_true,if_false];rw [hmk];refine wpOpIn_step rfl (fun K hK=>?_);have HK:=zzm hK;clear hK;go_simp;exact HK.out _ _ ⟨hb,rfl⟩
   case s13=>
    rintro  a' W' ⟨hb,rfl⟩;simp only [Nat.reduceEqDiff,if_true,if_false];rw [hmk];refine wpOpIn_step rfl (fun K hK=>?_);have HK:=zzm hK;clear hK;go_simp;exact HK.out _ _ ⟨hb,rfl⟩
   case s14=>
    rintro  a' W' ⟨hb,rfl⟩;simp only [Nat.reduceEqDiff,if_true,if_false];rw [hmk];refine wpOpIn_step rfl (fun K hK=>?_);have HK:=zzm hK;clear hK;go_simp;exact HK.out _ _ ⟨hb,rfl⟩
   case s15=>
    rintro  a' W' ⟨hb,rfl⟩;simp only [Nat.reduceEqDiff,if_true,if_false];rw [hmk];refine wpOpIn_step rfl (fun K hK=>?_);have HK:=zzm hK;clear hK;go_simp;exact HK.out _ _ ⟨hb,rfl⟩
   case s16=>
    rintro  a' W' ⟨hb,rfl⟩;simp only [Nat.reduceEqDiff,if_true,if_false];rw [hmk];refine wpOpIn_step rfl (fun K hK=>?_);have HK:=zzm hK;clear hK;go_simp;exact HK.out _ _ ⟨hb,rfl⟩
   case s17=>
    rintro  a' W' ⟨hb,rfl⟩;simp only [Nat.reduceEqDiff,if_true,if_false];rw [hmk];refine wpOpIn_step rfl (fun K hK=>?_);have HK:=zzm hK;clear hK;go_simp;exact HK.out _ _ ⟨hb,rfl⟩
   case s18=>
    rintro  a' W' ⟨hb,rfl⟩;simp only [Nat.reduceEqDiff,if_true,if_false];rw [hmk];refine wpOpIn_step rfl (fun K hK=>?_);have HK:=zzm hK;clear hK;go_simp;exact HK.out _ _ ⟨hb,rfl⟩
   case s19=>
    rintro  a' W' ⟨hb,rfl⟩;simp only [Nat.reduceEqDiff,if_true,if_false];rw [hmk];refine wpOpIn_step rfl (fun K hK=>?_);have HK:=zzm hK;clear hK;go_simp;exact HK.out _ _ ⟨hb,rfl⟩
  | true=>
   have hkey:=HOK.out rfl;have hcc:=zzm (HC.out rfl);have hBT:=zzm (bytesText_f hkey);have hkeyo:keyOf Try.prog 9 (.string ⟨(hexOf key).toArray⟩)=some (.string (hexOf key)):=by
    have hmax:maxLen=9223372036854775807:=rfl;rw [Go.WideMaps.keyOf_string_mk Try.underlying9 (by have h7:=hexOf_len key;have h8:=keyOk_len hkey;show (hexOf key).toArray.size≤maxLen;rw [List.size_toArray];omega)]
   obtain ⟨q,hq0⟩:∃ q,q=(c==r0):=⟨_,rfl⟩;refine wpIn_region_any hmx (wpAnyIn_20 (by kernel_rfl) (fun k a' W'=>Below w.heap.size w W'∧W'.heap[w.heap.size+1]? = W.heap[w.heap.size+1]?∧a' = (if k=0 then mk (.bool false) undef undef undef undef undef undef undef undef undef undef undef undef undef undef undef undef undef undef undef else if k=1 then mk (.bool false) (.pointer (some ⟨w.heap.size+1,2,none⟩)) undef undef undef undef undef undef undef undef undef undef undef undef undef undef undef undef undef undef else mk (.bool false) (.pointer (some ⟨w.heap.size+1,2,none⟩)) (.bool true) undef undef undef undef undef undef undef undef undef undef undef undef undef undef undef undef undef)) (fun x y z d a' W'=>Below w.heap.size w W'∧W'.heap[w.heap.size+1]? = W.heap[w.heap.size+1]?∧∃ u12 u13 u14 u15 u16 u17 u18,a' = mk (.bool false) (.pointer (some ⟨w.heap.size+1,2,none⟩)) (.bool true) (.bool true) (u12) (u13) (u14) (u15) (u16) (u17) (u18) undef undef undef undef undef undef undef undef undef∧(1≤x→u12 = .map (some bm))∧(1≤y→u13 = .pointer (some ⟨w.heap.size+1,3,none⟩))∧(2≤y→u14 = .slice P3 key.length q3)∧(3≤y→u15 = .string ⟨(hexOf key).toArray⟩)∧(1≤d→u16 = .int .i64 c)∧(1≤z→u17 = .pointer (some ⟨w.heap.size+1,0,none⟩))∧(2≤z→u18 = .int .i64 r0)) (fun k a' W'=>Below w.heap.size w W'∧W'.heap[w.heap.size+1]? = W.heap[w.heap.size+1]?∧a' = (if k=1 then mk (.bool false) (.pointer (some ⟨w.heap.size+1,2,none⟩)) (.bool true) (.bool true) (.map (some bm)) (.pointer (some ⟨w.heap.size+1,3,none⟩)) (.slice P3 key.length q3) (.string ⟨(hexOf key).toArray⟩) (.int .i64 c) (.pointer (some ⟨w.heap.size+1,0,none⟩)) (.int .i64 r0) (.bool q) undef undef undef undef undef undef undef undef else if k=2 then mk (.bool false) (.pointer (some ⟨w.heap.size+1,2,none⟩)) (.bool true) (.bool true) (.map (some bm)) (.pointer (some ⟨w.heap.size+1,3,none⟩)) (.slice P3 key.length q3) (.string ⟨(hexOf key).toArray⟩) (.int .i64 c) (.pointer (some ⟨w.heap.size+1,0,none⟩)) (.int .i64 r0) (.bool q) (.bool q) undef undef undef undef undef undef undef else if k=3 then mk (.bool false) (.pointer (some ⟨w.heap.size+1,2,none⟩)) (.bool true) (.bool true) (.map (some bm)) (.pointer (some ⟨w.heap.size+1,3,none⟩)) (.slice P3 key.length q3) (.string ⟨(hexOf key).toArray⟩) (.int .i64 c) (.pointer (some ⟨w.heap.size+1,0,none⟩)) (.int .i64 r0) (.bool q) (.bool q) (.bool q) undef undef undef undef undef undef else if k=4 then mk (.bool false) (.pointer (some ⟨w.heap.size+1,2,none⟩)) (.bool true) (.bool true) (.map (some bm)) (.pointer (some ⟨w.heap.size+1,3,none⟩)) (.slice P3 key.length q3) (.string ⟨(hexOf key).toArray⟩) (.int .i64 c) (.pointer (some ⟨w.heap.size+1,0,none⟩)) (.int .i64 r0) (.bool q) (.bool q) (.bool q) (if q=true then .pointer (some ⟨w.heap.size+1,4,none⟩) else undef) undef undef undef undef undef else if k=5 then mk (.bool false) (.pointer (some ⟨w.heap.size+1,2,none⟩)) (.bool true) (.bool true) (.map (some bm)) (.pointer (some ⟨w.heap.size+1,3,none⟩)) (.slice P3 key.length q3) (.string ⟨(hexOf key).toArray⟩) (.int .i64 c) (.pointer (some ⟨w.heap.size+1,0,none⟩)) (.int .i64 r0) (.bool q) (.bool q) (.bool q) (if q=true then .pointer (some ⟨w.heap.size+1,4,none⟩) else undef) (if q=true then .bool r4 else undef) undef undef undef undef else if k=6 then mk (.bool false) (.pointer (some ⟨w.heap.size+1,2,none⟩)) (.bool true) (.bool true) (.map (some bm)) (.pointer (some ⟨w.heap.size+1,3,none⟩)) (.slice P3 key.length q3) (.string ⟨(hexOf key).toArray⟩) (.int .i64 c) (.pointer (some ⟨w.heap.size+1,0,none⟩)) (.int .i64 r0) (.bool q) (.bool q) (.bool q) (if q=true then .pointer (some ⟨w.heap.size+1,4,none⟩) else undef) (if q=true then .bool r4 else undef) (if q=true then .bool r4 else undef) undef undef undef else if k=7 then mk (.bool false) (.pointer (some ⟨w.heap.size+1,2,none⟩)) (.bool true) (.bool true) (.map (some bm)) (.pointer (some ⟨w.heap.size+1,3,none⟩)) (.slice P3 key.length q3) (.string ⟨(hexOf key).toArray⟩) (.int .i64 c) (.pointer (some ⟨w.heap.size+1,0,none⟩)) (.int .i64 r0) (.bool q) (.bool q) (.bool q) (if q=true then .pointer (some ⟨w.heap.size+1,4,none⟩) else undef) (if q=true then .bool r4 else undef) (if q=true then .bool r4 else undef) (if (q && !r4)=true then .bool gone else undef) undef undef else if k=8 then mk (.bool false) (.pointer (some ⟨w.heap.size+1,2,none⟩)) (.bool true) (.bool true) (.map (some bm)) (.pointer (some ⟨w.heap.size+1,3,none⟩)) (.slice P3 key.length q3) (.string ⟨(hexOf key).toArray⟩) (.int .i64 c) (.pointer (some ⟨w.heap.size+1,0,none⟩)) (.int .i64 r0) (.bool q) (.bool q) (.bool q) (if q=true then .pointer (some ⟨w.heap.size+1,4,none⟩) else undef) (if q=true then .bool r4 else undef) (if q=true then .bool r4 else undef) (if (q && !r4)=true then .bool gone else undef) (if q=true then .bool (r4||gone) else undef) undef else if k=9 then mk (.bool false) (.pointer (some ⟨w.heap.size+1,2,none⟩)) (.bool true) (.bool true) (.map (some bm)) (.pointer (some ⟨w.heap.size+1,3,none⟩)) (.slice P3 key.length q3) (.string ⟨(hexOf key).toArray⟩) (.int .i64 c) (.pointer (some ⟨w.heap.size+1,0,none⟩)) (.int .i64 r0) (.bool q) (.bool q) (.bool q) (if q=true then .pointer (some ⟨w.heap.size+1,4,none⟩) else undef) (if q=true then .bool r4 else undef) (if q=true then .bool r4 else undef) (if (q && !r4)=true then .bool gone else undef) (if q=true then .bool (r4||gone) else undef) (.bool (q&&(r4||gone))) else mk (.bool (q&&(r4||gone))) (.pointer (some ⟨w.heap.size+1,2,none⟩)) (.bool true) (.bool true) (.map (some bm)) (.pointer (some ⟨w.heap.size+1,3,none⟩)) (.slice P3 key.length q3) (.string ⟨(hexOf key).toArray⟩) (.int .i64 c) (.pointer (some ⟨w.heap.size+1,0,none⟩)) (.int .i64 r0) (.bool q) (.bool q) (.bool q) (if q=true then .pointer (some ⟨w.heap.size+1,4,none⟩) else undef) (if q=true then .bool r4 else undef) (if q=true then .bool r4 else undef) (if (q && !r4)=true then .bool gone else undef) (if q=true then .bool (r4||gone) else undef) (.bool (q&&(r4||gone))))) ?hdone ?s0 ?s1 ?s2 ?s3 ?s4 ?s5 ?s6 ?s7 ?s8 ?s9 ?s10 ?s11 ?s12 ?s13 ?s14 ?s15 ?s16 ?s17 ?s18 ?s19 ?hini)
   case hini=>exact ⟨zzb hBW 1,rfl,by rw [hmk];rfl⟩
   case hdone=>
    rintro a' W' ⟨hb,-,rfl⟩;simp only [Nat.reduceEqDiff,if_false];generalize (if q=true then Value.pointer (some ⟨w.heap.size+1,4,none⟩) else undef)=y22;generalize (if q=true then Value.bool r4 else undef)=y23;generalize (if (q && !r4)=true then Value.bool gone else undef)=y25;generalize (if q=true then Value.bool (r4||gone) else undef)=y26;rw [hq0];clear hq0;generalize hz:((c==r0)&&(r4||gone))=z;rw [hmk];gi_wp2;exact bodyPost_ret (results_tmp rfl _ _ _) rfl ⟨by rw [← hz];rfl,hb⟩
   case s0=>
    rintro a' W' ⟨hb,hw,rfl⟩;simp only [Nat.reduceEqDiff,if_true,if_false];rw [hmk];skip;refine wpOpIn_step rfl (fun K hK=>?_);have HK:=zzm hK;clear hK;go_simp;exact HK.out _ _ ⟨hb,hw,rfl⟩
   case s1=>
    rintro a' W' ⟨hb,hw,rfl⟩;simp only [Nat.reduceEqDiff,if_true,if_false];rw [hmk];have q2:W'.cell? ⟨w.heap.size+1,2,none⟩=some (.bool true):=by simp [World.cell?,hw,cR]
    refine wpOpIn_step rfl (fun K hK=>?_);have HK:=zzm hK;clear hK;go_simp;exact HK.out _ _ ⟨hb,hw,rfl⟩
   case s2=>
    rintro a' W' ⟨hb,hw,rfl⟩;simp only [Nat.reduceEqDiff,if_true,if_false];rw [hmk];skip;refine wpOpIn_step rfl (fun K hK=>?_);have HK:=zzm hK;clear hK;go_simp;exact HK.out _ _ ⟨hb,hw,_,_,_,_,_,_,_,rfl,by simp,by simp,by simp,by simp,by simp,by simp,by simp⟩
   case s3=>
    rintro y z d a' W' ⟨hb,hw,u12,u13,u14,u15,u16,u17,u18,rfl,h1,h2,h3,h4,h5,h6,h7⟩;have cMn:=(hb.cell hltM).trans cM;rw [hmk];refine wpOpIn_step rfl (fun K hK=>?_);have HK:=zzm hK;clear hK;go_simp;exact HK.out _ _ ⟨hb,hw,_,u13,u14,u15,u16,u17,u18,rfl,fun _=>rfl,h2,h3,h4,h5,h6,h7⟩
   case s4=>
    rintro x z d a' W' ⟨hb,hw,u12,u13,u14,u15,u16,u17,u18,rfl,h1,h2,h3,h4,h5,h6,h7⟩;rw [hmk];refine wpOpIn_step rfl (fun K hK=>?_);have HK:=zzm hK;clear hK;go_simp;exact HK.out _ _ ⟨hb,hw,u12,_,u14,u15,u16,u17,u18,rfl,h1,fun _=>rfl,by simp,by simp,h5,h6,h7⟩
   case s5=>
    rintro x z d a' W' ⟨hb,hw,u12,u13,u14,u15,u16,u17,u18,rfl,h1,h2,h3,h4,h5,h6,h7⟩;obtain rfl:=h2 (by decide);have q2:W'.cell? ⟨w.heap.size+1,3,none⟩=some (.slice P3 key.length q3):=by simp [World.cell?,hw,cR]
    rw [hmk];refine wpOpIn_step rfl (fun K hK=>?_);have HK:=zzm hK;clear hK;go_simp;exact HK.out _ _ ⟨hb,hw,u12,_,_,u15,u16,u17,u18,rfl,h1,fun _=>rfl,fun _=>rfl,by simp,h5,h6,h7⟩
   case s6=>
    rintro x z d a' W' ⟨hb,hw,u12,u13,u14,u15,u16,u17,u18,rfl,h1,h2,h3,h4,h5,h6,h7⟩;obtain rfl:=h2 (by decide);obtain rfl:=h3 (by decide);have hKy:=zzm (Kd.C_below HK3.out hb);have hsz:=hBW.size;have hlt:w.heap.size+1 < W'.heap.size:=by rw [cR] at hw;exact (Array.getElem?_eq_some_iff.1 hw).1
    rw [hmk];refine wpOpIn_step rfl (fun K hK=>?_);have HK:=zzm hK;clear hK;go_simp;gi_wp2_with (refine ⟨trivial,?_⟩;gi_at_call 68;refine (callsIn_wide.2 (Rq.calls _ _ _ _ _ _ hKy.out hq hBT.out)).mono ?_;rintro e w7 ⟨rfl,hb7⟩;dsimp only);exact HK.out _ _ ⟨hb.trans (hb7.mono (by omega)),(hb7.block _ hlt).trans hw,u12,_,_,_,u16,u17,u18,rfl,h1,fun _=>rfl,fun _=>rfl,fun _=>rfl,h5,h6,h7⟩
   case s7=>
    rintro z a' W' ⟨hb,hw,u12,u13,u14,u15,u16,u17,u18,rfl,h1,h2,h3,h4,h5,h6,h7⟩;obtain rfl:=h1 (by decide);obtain rfl:=h4 (by decide);rw [hmk];have howW:=ownsMap_below HOWN.out hb;refine wpOpIn_step rfl (fun K hK=>?_);rw [if_pos (by rfl)];refine S_lookup_in (.tmp 12) (.tmp 15) 80 rfl 9 3 .i64 (Maps.string_keyed Try.underlying9) Try.underlying80 Try.underlying3 (Try.zeroValue3 _) bm nn D rfl howW _ _ rfl hkeyo ?_;intro c' hc';have a0:=hcc.out;rw [hc'] at a0;obtain rfl:c' = c:=by injection a0 with h;injection h
    exact hK _ _ ⟨hb,hw,_,u13,u14,_,_,u17,u18,rfl,fun _=>rfl,h2,h3,fun _=>rfl,fun _=>rfl,h6,h7⟩
   case s8=>
    rintro x y d a' W' ⟨hb,hw,u12,u13,u14,u15,u16,u17,u18,rfl,h1,h2,h3,h4,h5,h6,h7⟩;rw [hmk];refine wpOpIn_step rfl (fun K hK=>?_);have HK:=zzm hK;clear hK;go_simp;exact HK.out _ _ ⟨hb,hw,u12,u13,u14,u15,u16,_,u18,rfl,h1,h2,h3,h4,h5,fun _=>rfl,by simp⟩
   case s9=>
    rintro x y d a' W' ⟨hb,hw,u12,u13,u14,u15,u16,u17,u18,rfl,h1,h2,h3,h4,h5,h6,h7⟩;obtain rfl:=h6 (by decide);have q2:W'.cell? ⟨w.heap.size+1,0,none⟩=some (.int .i64 r0):=by simp [World.cell?,hw,cR]
    rw [hmk];refine wpOpIn_step rfl (fun K hK=>?_);have HK:=zzm hK;clear hK;go_simp;exact HK.out _ _ ⟨hb,hw,u12,u13,u14,u15,u16,_,_,rfl,h1,h2,h3,h4,h5,fun _=>rfl,fun _=>rfl⟩
   case s10=>
    rintro a' W' ⟨hb,hw,u12,u13,u14,u15,u16,u17,u18,rfl,h1,h2,h3,h4,h5,h6,h7⟩;obtain rfl:=h1 (by decide);obtain rfl:=h2 (by decide);obtain rfl:=h3 (by decide);obtain rfl:=h4 (by decide);obtain rfl:=h5 (by decide);obtain rfl:=h6 (by decide);obtain rfl:=h7 (by decide);rw [hmk];refine wpOpIn_step rfl (fun K hK=>?_);have HK:=zzm hK;clear hK;go_simp;exact HK.out _ _ ⟨hb,hw,by rw [hq0];rfl⟩
   case s11=>
    rintro a' W' ⟨hb,hw,rfl⟩;simp only [Nat.reduceEqDiff,if_true,if_false];rw [hmk];clear hq0;cases q <;> (refine wpOpIn_step rfl (fun K hK=>?_);have HK:=zzm hK;clear hK;go_simp;exact HK.out _ _ ⟨hb,hw,rfl⟩)
   case s12=>
    rintro a' W' ⟨hb,hw,rfl⟩;simp only [Nat.reduceEqDiff,if_true,if_false];rw [hmk];clear hq0;cases q <;> (refine wpOpIn_step rfl (fun K hK=>?_);have HK:=zzm hK;clear hK;go_simp;exact HK.out _ _ ⟨hb,hw,rfl⟩)
   case s13=>
    rintro a' W' ⟨hb,hw,rfl⟩;simp only [Nat.reduceEqDiff,if_true,if_false];rw [hmk];clear hq0;cases q <;> cases r4 <;> (refine wpOpIn_step rfl (fun K hK=>?_);have HK:=zzm hK;clear hK;go_simp;exact HK.out _ _ ⟨hb,hw,rfl⟩)
   case s14=>
    rintro a' W' ⟨hb,hw,rfl⟩;simp only [Nat.reduceEqDiff,if_true,if_false];rw [hmk];have q2:W'.cell? ⟨w.heap.size+1,4,none⟩=some (.bool r4):=by simp [World.cell?,hw,cR]
    clear hq0;cases q <;> cases r4 <;> (refine wpOpIn_step rfl (fun K hK=>?_);have HK:=zzm hK;clear hK;go_simp;exact HK.out _ _ ⟨hb,hw,rfl⟩)
   case s15=>
    rintro a' W' ⟨hb,hw,rfl⟩;simp only [Nat.reduceEqDiff,if_true,if_false];rw [hmk];clear hq0;cases q <;> cases r4 <;> (refine wpOpIn_step rfl (fun K hK=>?_);have HK:=zzm hK;clear hK;go_simp;exact HK.out _ _ ⟨hb,hw,rfl⟩)
   case s16=>
    rintro a' W' ⟨hb,hw,rfl⟩;simp only [Nat.reduceEqDiff,if_true,if_false];rw [hmk];have cGn:=(hb.cell hltG).trans cG;clear hq0;cases q <;> cases r4 <;> (refine wpOpIn_step rfl (fun K hK=>?_);have HK:=zzm hK;clear hK;go_simp;exact HK.out _ _ ⟨hb,hw,rfl⟩)
   case s17=>
    rintro a' W' ⟨hb,hw,rfl⟩;simp only [Nat.reduceEqDiff,if_true,if_false];rw [hmk];clear hq0;cases q <;> cases r4 <;> (refine wpOpIn_step rfl (fun K hK=>?_);have HK:=zzm hK;clear hK;go_simp;exact HK.out _ _ ⟨hb,hw,rfl⟩)
   case s18=>
    rintro a' W' ⟨hb,hw,rfl⟩;simp only [Nat.reduceEqDiff,if_true,if_false];rw [hmk];clear hq0;cases q <;> cases r4 <;> (refine wpOpIn_step rfl (fun K hK=>?_);have HK:=zzm hK;clear hK;go_simp;exact HK.out _ _ ⟨hb,hw,rfl⟩)
   case s19=>
    rintro a' W' ⟨hb,hw,rfl⟩;simp only [Nat.reduceEqDiff,if_true,if_false];rw [hmk];clear hq0;cases q <;> cases r4 <;> (refine wpOpIn_step rfl (fun K hK=>?_);have HK:=zzm hK;clear hK;go_simp;exact HK.out _ _ ⟨hb,hw,rfl⟩)
end
section
open Go.Shelf
theorem rd_at_R {l:List S30} {j:Nat} (h:j < l.length):Qb l (j:Int)=l[j]:=by unfold Qb;rw [Int.toNat_natCast,List.getD_eq_getElem?_getD,List.getElem?_eq_getElem h];rfl
theorem rd_at_B {l:List S34} {j:Nat} (h:j < l.length):Qa l (j:Int)=l[j]:=by unfold Qa;rw [Int.toNat_natCast,List.getD_eq_getElem?_getD,List.getElem?_eq_getElem h];rfl
theorem copyRecs_fuel (l:List S30) (hl:l.length≤1000000) (hx:∀ r∈l,r.f3.length≤1000∧r.f5.length≤1000):∀ (d i:Nat),l.length - i=d→i≤l.length→Qq.l0 (d+1) (l.take i) l (l.length:Int) (i:Int)=some l
 | 0,i,hd,hi=>by
  obtain rfl:i=l.length:=by omega
  unfold Qq.l0
  rw [if_neg (by omega),List.take_length]
 | d+1,i,hd,hi=>by
  have ih:=copyRecs_fuel l hl hx d (i+1) (by omega) (by omega)
  have hil:i < l.length:=by omega
  have h2:=hx _ (List.getElem_mem hil)
  have e1:wrap64 ((i:Int)+1)=((i+1:Nat):Int):=by unfold wrap64;omega
  have e2:Rm.f (Qb l (i:Int)).f0 (Qb l (i:Int)).f1 (Qb l (i:Int)).f2 (Qb l (i:Int)).f3 (Qb l (i:Int)).f4 (Qb l (i:Int)).f5=some (l[i].f0,l[i].f1,l[i].f2,l[i].f3,l[i].f4,l[i].f5):=by
   rw [rd_at_R hil];unfold Rm.f slices_Clone_int_int.f;rw [if_pos (by omega),if_pos (by omega)];rfl
  have e3:l.take i ++ [(⟨l[i].f0,l[i].f1,l[i].f2,l[i].f3,l[i].f4,l[i].f5⟩:S30)]=l.take (i+1):=by rw [List.take_succ_eq_append_getElem hil]
  unfold Qq.l0;rw [if_pos (by omega),if_pos (by omega),if_pos (by omega),e2,Option.bind_some];dsimp only;rw [if_pos (by rw [length_take];omega),e3,e1];exact ih
theorem ptsRow_le {l:List S34} {i:Nat} (hi:i < l.length):(Qa l (i:Int)).f5.length≤(pts l).length:=by
 have:=(ptsAt_prefix hi (Nat.le_refl _)).length_le;unfold ptsAt at this;rw [List.length_append,List.length_map,List.length_range] at this;omega
theorem copyB_at {l:List S34} (h:okLog l=true) {i:Nat} (hi:i < l.length):∃ k,Rt.f k (Qa l (i:Int)).f0 (Qa l (i:Int)).f1 (Qa l (i:Int)).f2 (Qa l (i:Int)).f3 (Qa l (i:Int)).f4 (Qa l (i:Int)).f5=some ((Qa l (i:Int)).f0,(Qa l (i:Int)).f1,(Qa l (i:Int)).f2,(Qa l (i:Int)).f3,(Qa l (i:Int)).f4,(Qa l (i:Int)).f5):=by
 have h1:=okLog_len h;have h2:=ptsRow_le hi;have hc:=copyRecs_fuel (Qa l (i:Int)).f5 (by omega) (fun r hr=>by
  obtain ⟨j,hj,rfl⟩:=List.getElem_of_mem hr;have:=okLog_at h (i,j);unfold rcOf at this;dsimp only at this;rw [rd_at_R hj] at this;exact ⟨this.2.1,this.2.2.1⟩) (Qa l (i:Int)).f5.length 0 (by omega) (by omega)
 refine ⟨(Qa l (i:Int)).f5.length+1,?_⟩;unfold Rt.f Qq.f;rw [if_pos (by omega),if_pos (by omega)];rw [List.take_zero] at hc;rw [show ((0:Nat):Int)=0 from rfl] at hc;rw [hc];rfl
theorem S_of_nil {α:Type} {d:Kd α} {e base:Nat} {w:World} {ok:Nat→Prop} {v:Value} (h:Kd.R d e w base ok v []):Kd.S d e w base ok v []:=by
 obtain ⟨h0,inner,ho,hr⟩:=h;exact ⟨fun _=>0,h0,inner,ho,hr.1,fun j p hp=>by simp at hp⟩
set_option maxHeartbeats 4000000 in
theorem copyBatchesS_calls (A0:Option Addr) (c0:Nat) (l0:List (S34)) (w:World) (a0:Kd.C k34 w A0 l0.length l0) (a1:l0.length≤c0) (hlen:l0.length≤1000000) (hok:okLog l0=true) :
  Calls Try.prog 49 #[.slice A0 l0.length c0] w fun e w'=>∃ v,e = .returned v∧Kd.S k34 34 w' w.heap.size (fun _=>True) v l0∧Below w.heap.size w w':=by
 have a5:=zzm a0;have b7:=zzm a1;have HOK:=zzm hok;have HL:=zzm hlen;have hm0:l0.length≤9223372036854775807:=a0.2.1;clear a0 a1 hok hlen;have hu:=Try.underlying34;go_enter Try.func49,Try.ntmps49;go_wp2_with (first|((with_reducible refine gate_dst (N:=8) rfl ?_);refine rmake0_R k34 _ 34 rfl (N:=8) rfl 23 _ _ rfl (l0.length:Int) rfl rfl Try.underlying23 (.agg #[(.bool false),(.bool false),(.int .i64 0),(.int .i64 0),(.int .i64 0),(.slice none 0 0)]) 56 info34 (by decide) (by omega) (ok:=fun _=>True) trivial (by omega) (by have:=HL.out;omega) (Below.refl _ _) (Nat.le_refl _) ?_;intro b6 w4 ho5 hb hg_ hnew_;clear hg_ hnew_;have a2:=zzm ho5;have HB5:=zzm hb;clear ho5 hb));go_loopw [3,11] (fun v3 i w'=>∃ m:Nat,m≤l0.length∧i = .int .i64 m∧Kd.S k34 34 w' w.heap.size (fun _=>True) v3 (l0.take m)∧Below w.heap.size w w') (fun _ i _=>l0.length - (intOf i).toNat)
 case atStart=>exact ⟨0,Nat.zero_le _,by go_num,by rw [List.take_zero];exact S_of_nil a2.out,HB5.out⟩
 case round=>
  obtain ⟨m,hm,rfl,hS,hB⟩:=hrel;have HB:=zzm hB;have HS:=zzm hS;clear hB hS a2 HB5;have hll:=HL.out;by_cases hlt:m < l0.length
  ·
   obtain ⟨kk,hkk⟩:=copyB_at HOK.out hlt;have HKK:=zzm hkk;clear hkk;obtain ⟨ad,A5,c5,he,a6,a7,a8,a9,b0,b1,a3,a4⟩:=Ra (Kd.C_below a5.out HB.out) (m:Int) (by omega) (by omega);subst he;simp only [Int.toNat_natCast] at a6 a7 a8 a9 b0 b1;have b2:=zzm a4;have b3:=zzm a3;clear a4 a3;have htk:l0.take m ++ [Qa l0 (m:Int)]=l0.take (m+1):=by rw [rd_at_B hlt,List.take_succ_eq_append_getElem hlt]
   have hlm:(l0.take m).length=m:=by rw [length_take];omega
   go_wp2_with (first|(go_at_call 74;refine (Rt.calls kk _ _ _ _ _ _ _ (Qa l0 (m:Int)).f5 _ _ _ _ _ _ _ (Kd.C_alloc b2.out _) b3.out HKK.out).mono ?_;rintro e w2 ⟨v5,rfl,ho5,hb2⟩;obtain ⟨A6,c6,b4⟩:=Kd.S_slice ho5;subst b4;have b5:=zzm ho5;have HB2:=zzm hb2;clear ho5 hb2)|(at_builtin;refine Kd.S_append k34 (w0:=w) w.heap.size rfl (.tmp 15) (.tmp 18) 23 34 (.agg #[(.bool false),(.bool false),(.int .i64 0),(.int .i64 0),(.int .i64 0),(.slice none 0 0)]) 56 rfl Try.underlying23 info34 rfl (by decide) (by omega) _ (l0.take m) (Qa l0 (m:Int)) [.bool (Qa l0 (m:Int)).f0,.bool (Qa l0 (m:Int)).f1,.int .i64 (Qa l0 (m:Int)).f2,.int .i64 (Qa l0 (m:Int)).f3,.int .i64 (Qa l0 (m:Int)).f4,.slice A6 (Qa l0 (m:Int)).f5.length c6] (fun _=>True) (fun k=>wr.heap.size < k) rfl rfl ?aP ?aK (fun _ _=>trivial) ?aO ?aB ?aS ?aL ?_;(case aP=>exact k34_mkM w2 w.heap.size _ (Qa l0 (m:Int)) (Kd.R_mono (Kd.R_lower (Kd.R_bound (Kd.S_R b5.out)) (by have:=HB.out.size;simp;omega)) (fun k hk=>by have:=hk.2.1;simp at this;omega)));(case aK=>exact fun k hk=>⟨trivial,fun e=>by have:=Kd.R_lt (Kd.S_R HS.out) k e.symm;omega⟩);(case aO=>exact Kd.S_mono (Kd.S_below (Kd.S_bound HS.out) (((Below.refl _ wr).alloc (Nat.le_refl _) _).trans (HB2.out.mono (by simp)))) (fun k hk=>⟨trivial,by omega⟩));(case aB=>exact HB.out.trans ((((Below.refl _ wr).alloc (Nat.le_refl _) _).trans (HB2.out.mono (by simp))).mono HB.out.size));(case aS=>have h1:=HB.out.size;have h2:=HB2.out.size;simp at h2;omega);(case aL=>rw [hlm];omega);intro v1 w1 hS1 hb1 hg1 hat;rw [htk] at hS1;have HS1:=zzm hS1;have HB1:=zzm hb1;clear hS1 hb1 hg1 hat));go_roundw
   case rel=>exact ⟨m+1,by omega,by go_num,HS1.out,HB1.out⟩
   case measure=>simp [intOf] <;> omega
  ·
   obtain rfl:m=l0.length:=by omega
   go_wp2;go_ret;refine ⟨_,rfl,?_,HB.out⟩;have h:=HS.out;rw [List.take_length] at h;exact h
end
section
open Go.Shelf
def firstAt {α:Type} (p : α→Bool) (xs:List α):Int:=match xs.findIdx? p with
 | none=>-1
 | some i=>(i:Int)
theorem firstAt_hit {α:Type} (p : α→Bool) (xs:List α) (m:Nat) (hm:m < xs.length) (h:∀ j x,j < m→xs[j]? = some x→p x=false) (hp:p xs[m]=true):firstAt p xs=(m:Int):=by
 unfold firstAt;have:xs.findIdx? p=some m:=by
  rw [List.findIdx?_eq_some_iff_getElem];exact ⟨hm,hp,fun j hj=>by have:=h j xs[j] hj (List.getElem?_eq_getElem (by omega));simp [this]⟩
 rw [this]
theorem firstAt_miss {α:Type} (p : α→Bool) (xs:List α) (h:∀ x∈xs,p x=false):firstAt p xs = -1:=by
 unfold firstAt;have:xs.findIdx? p=none:=by rw [List.findIdx?_eq_none_iff];exact fun x hx=>by simp [h x hx]
 rw [this]
set_option maxHeartbeats 4000000 in
theorem index30_calls (cl:Nat) (lb:Array Value) (eg:∀ args w,(callFunc cl args).run Try.prog w = .ok (.enter cl args) w) (p:S30→Bool) (Okw:World→Prop) (hok1:∀ W W',Okw W→Below W.heap.size W W'→Okw W') (A:Option Addr) (c:Nat) (xs:List S30) (w:World)
  (PR:∀ (W:World) (x:S30) (cs:Array Value),Okw W→x∈xs→k30.K W x cs.toList→Calls Try.prog cl (#[.agg cs]++lb) W fun e w'=>e = .returned (.bool (p x))∧Below W.heap.size W w') (hC:Kd.C k30 w A xs.length xs) (hw:Okw w) :
  Calls Try.prog 75 #[.slice A xs.length c,.func (.func cl) #[] lb] w fun e w'=>e = .returned (.int .i64 (firstAt p xs))∧Below w.heap.size w w':=by
 have HC:=zzm hC;have HW:=zzm hw;have HPR:=zzm PR;have HO:=zzm hok1;have hm0:xs.length≤9223372036854775807:=hC.2.1;have hu:=Try.underlying30;clear hC hw PR hok1;go_enter Try.func75,Try.ntmps75;go_wp2;go_loopg [5,8] xs.length (fun gg _ s8 wr=>∃ m:Nat,m≤xs.length∧xs.length - m≤gg∧s8 = .int .i64 m∧Below w.heap.size w wr∧Aside0 (∀ j x,j < m→xs[j]? = some x→p x=false))
 case atStart=>exact ⟨0,Nat.zero_le _,by omega,rfl,Below.refl _ _,⟨fun j x hj=>absurd hj (Nat.not_lt_zero _)⟩⟩
 case round=>
  obtain ⟨m,hm,hgg,rfl,hB,HF⟩:=hrel;have HB:=zzm hB;clear hB;by_cases hlt:m < xs.length
  ·
   have hltz:(m:Int) < (xs.length:Int):=by omega
   obtain ⟨ad,A3,c3,A5,c5,he,a4,a5,a6,a7,a8,a9,a0,a1,a2,a3⟩:=Rg (Kd.C_below HC.out HB.out) (m:Int) (by omega) (by omega);subst he;simp only [Int.toNat_natCast] at a4 a5 a6 a7 a8 a9;have hrd:Qb xs (m:Int)=xs[m]:=rd_at_R hlt;have hcall:=HPR.out wr (Qb xs (m:Int)) #[.int .i64 (Qb xs (m:Int)).f0,.int .i64 (Qb xs (m:Int)).f1,.bool (Qb xs (m:Int)).f2,.slice A3 (Qb xs (m:Int)).f3.length c3,.bool (Qb xs (m:Int)).f4,.slice A5 (Qb xs (m:Int)).f5.length c5] (HO.out w wr HW.out HB.out) (by rw [hrd];exact List.getElem_mem hlt) (k30_mk _ _ a0 a1 a2 a3);have HRD:=zzm hrd;clear hrd a0 a1 a2 a3;cases hq:p (Qb xs (m:Int)) with
   | true=>
    rw [hq] at hcall;have HQ:=zzm hq;clear hq;go_wp2_with (go_at_fn cl;refine hcall.mono ?_;rintro e w' ⟨rfl,hb2⟩;have HB2:=zzm hb2;clear hb2);go_ret;refine ⟨?_,HB.out.trans (HB2.out.mono HB.out.size)⟩;rw [firstAt_hit p xs m hlt HF.out (by rw [← HRD.out];exact HQ.out)];rfl
   | false=>
    rw [hq] at hcall;have HQ:=zzm hq;clear hq;go_wp2_with (go_at_fn cl;refine hcall.mono ?_;rintro e w' ⟨rfl,hb2⟩;have HB2:=zzm hb2;clear hb2);go_roundg (xs.length - (m+1))
    case measure=>omega
    case rel=>
     refine ⟨m+1,by omega,Nat.le_refl _,by go_num,HB.out.trans (HB2.out.mono HB.out.size),⟨fun j x hj hx=>?_⟩⟩;by_cases e:j=m
     ·
      subst e;rw [List.getElem?_eq_getElem hlt] at hx;rw [← Option.some.inj hx,← HRD.out];exact HQ.out
     ·
      exact HF.out j x (by omega) hx
  ·
   have hltz:¬ (m:Int) < (xs.length:Int):=by omega
   go_wp2;go_ret;refine ⟨?_,HB.out⟩;rw [firstAt_miss p xs (fun x hx=>by obtain ⟨j,hj,rfl⟩:=List.getElem_of_mem hx;exact HF.out j _ (by omega) (List.getElem?_eq_getElem hj))];rfl
set_option maxHeartbeats 4000000 in
theorem index34_calls (cl:Nat) (lb:Array Value) (eg:∀ args w,(callFunc cl args).run Try.prog w = .ok (.enter cl args) w) (p:S34→Bool) (Okw:World→Prop) (hok1:∀ W W',Okw W→Below W.heap.size W W'→Okw W') (A:Option Addr) (c:Nat) (xs:List S34) (w:World)
  (PR:∀ (W:World) (x:S34) (cs:Array Value),Okw W→x∈xs→k34.K W x cs.toList→Calls Try.prog cl (#[.agg cs]++lb) W fun e w'=>e = .returned (.bool (p x))∧Below W.heap.size W w') (hC:Kd.C k34 w A xs.length xs) (hw:Okw w) :
  Calls Try.prog 76 #[.slice A xs.length c,.func (.func cl) #[] lb] w fun e w'=>e = .returned (.int .i64 (firstAt p xs))∧Below w.heap.size w w':=by
 have HC:=zzm hC;have HW:=zzm hw;have HPR:=zzm PR;have HO:=zzm hok1;have hm0:xs.length≤9223372036854775807:=hC.2.1;have hu:=Try.underlying34;clear hC hw PR hok1;go_enter Try.func76,Try.ntmps76;go_wp2;go_loopg [5,8] xs.length (fun gg _ s8 wr=>∃ m:Nat,m≤xs.length∧xs.length - m≤gg∧s8 = .int .i64 m∧Below w.heap.size w wr∧Aside0 (∀ j x,j < m→xs[j]? = some x→p x=false))
 case atStart=>exact ⟨0,Nat.zero_le _,by omega,rfl,Below.refl _ _,⟨fun j x hj=>absurd hj (Nat.not_lt_zero _)⟩⟩
 case round=>
  obtain ⟨m,hm,hgg,rfl,hB,HF⟩:=hrel;have HB:=zzm hB;clear hB;by_cases hlt:m < xs.length
  ·
   have hltz:(m:Int) < (xs.length:Int):=by omega
   obtain ⟨ad,A5,c5,he,a2,a3,a4,a5,a6,a7,a0,a1⟩:=Ra (Kd.C_below HC.out HB.out) (m:Int) (by omega) (by omega);subst he;simp only [Int.toNat_natCast] at a2 a3 a4 a5 a6 a7;have hrd:Qa xs (m:Int)=xs[m]:=rd_at_B hlt;have hcall:=HPR.out wr (Qa xs (m:Int)) #[.bool (Qa xs (m:Int)).f0,.bool (Qa xs (m:Int)).f1,.int .i64 (Qa xs (m:Int)).f2,.int .i64 (Qa xs (m:Int)).f3,.int .i64 (Qa xs (m:Int)).f4,.slice A5 (Qa xs (m:Int)).f5.length c5] (HO.out w wr HW.out HB.out) (by rw [hrd];exact List.getElem_mem hlt) (k34_mk _ _ a0 a1);have HRD:=zzm hrd;clear hrd a0 a1;cases hq:p (Qa xs (m:Int)) with
   | true=>
    rw [hq] at hcall;have HQ:=zzm hq;clear hq;go_wp2_with (go_at_fn cl;refine hcall.mono ?_;rintro e w' ⟨rfl,hb2⟩;have HB2:=zzm hb2;clear hb2);go_ret;refine ⟨?_,HB.out.trans (HB2.out.mono HB.out.size)⟩;rw [firstAt_hit p xs m hlt HF.out (by rw [← HRD.out];exact HQ.out)];rfl
   | false=>
    rw [hq] at hcall;have HQ:=zzm hq;clear hq;go_wp2_with (go_at_fn cl;refine hcall.mono ?_;rintro e w' ⟨rfl,hb2⟩;have HB2:=zzm hb2;clear hb2);go_roundg (xs.length - (m+1))
    case measure=>omega
    case rel=>
     refine ⟨m+1,by omega,Nat.le_refl _,by go_num,HB.out.trans (HB2.out.mono HB.out.size),⟨fun j x hj hx=>?_⟩⟩;by_cases e:j=m
     ·
      subst e;rw [List.getElem?_eq_getElem hlt] at hx;rw [← Option.some.inj hx,← HRD.out];exact HQ.out
     ·
      exact HF.out j x (by omega) hx
  ·
   have hltz:¬ (m:Int) < (xs.length:Int):=by omega
   go_wp2;go_ret;refine ⟨?_,HB.out⟩;rw [firstAt_miss p xs (fun x hx=>by obtain ⟨j,hj,rfl⟩:=List.getElem_of_mem hx;exact HF.out j _ (by omega) (List.getElem?_eq_getElem hj))];rfl
end
section
open Go.Shelf
theorem run_clear_rows {P:Program} (w:World) (t e ty:TypeId) (z:Value) (ht:P.underlying t=some (.slice e)) (hv:∀ w,(zeroValue e).run P w = .ok z w) (b o n c:Nat) (hn : 0 < n) (zs:List Value) (hz:(Builtin.zeroCells z.cells n).toList=zs)
  (hc:∀ j,j < zs.length→(w.cell? ⟨b,o+j,none⟩).isSome=true) (hf:∀ j,j < zs.length→w.frozen? ⟨b,o+j,none⟩=false) (h1:∀ v∈zs,v.oneCell' = true) :
  (Builtin.clear_ #[t] ty #[.slice (some ⟨b,o,none⟩) n c]).run P w = .ok (.tuple #[]) (w.setCells b o zs):=by
 have hst:=run_storeCells_cells (P:=P) b o zs 0 w (by simpa using hc) (by simpa using hf) h1;simp only [Nat.add_zero] at hst;obtain ⟨m,rfl⟩:∃ m,n=m+1:=⟨n - 1,by omega⟩;simp [Builtin.clear_,run_underlying ht,hv,hz,hst]
def Gr (g:Nat) (W W' : World):Prop:=W.heap.size≤W'.heap.size∧Below g W W'∧∀ k,k < W.heap.size→k≠g→W'.heap[k]? = W.heap[k]?
theorem Gr.trans {g:Nat} {X Y Z:World} (h:Gr g X Y) (k:Gr g Y Z):Gr g X Z:=⟨Nat.le_trans h.1 k.1,h.2.1.trans k.2.1,fun i hi hn=>(k.2.2 i (Nat.lt_of_lt_of_le hi h.1) hn).trans (h.2.2 i hi hn)⟩
theorem Gr.of_below {g:Nat} {W W' : World} (hg:g≤W.heap.size) (h:Below W.heap.size W W'):Gr g W W':=⟨h.size,h.mono hg,fun k hk _=>h.block k hk⟩
theorem Gr.of_grown {g:Nat} {W W' : World} (hg:g≤W.heap.size) (h:W.grownBy W' (some g)):Gr g W W':=⟨h.size,(Below.refl g W).grown h hg (fun k e=>by cases e;exact Nat.le_refl _),fun k hk hn=>h.block k hk (fun e=>hn (Option.some.inj e))⟩
theorem firstAt_spec {α:Type} (p : α→Bool) (xs:List α):(firstAt p xs = -1∧∀ x∈xs,p x=false)∨∃ k,∃ h:k < xs.length,firstAt p xs=(k:Int)∧p xs[k]=true∧∀ j x,j < k→xs[j]? = some x→p x=false:=by
 unfold firstAt;cases h:xs.findIdx? p with
 | none=>exact .inl ⟨rfl,by rw [List.findIdx?_eq_none_iff] at h;exact h⟩
 | some k=>
  rw [List.findIdx?_eq_some_iff_getElem] at h;obtain ⟨hk,hp,hb⟩:=h;refine .inr ⟨k,hk,rfl,hp,fun j x hj hx=>?_⟩;have:=hb j hj;rw [List.getElem?_eq_getElem (by omega)] at hx;rw [← Option.some.inj hx];simpa using this
theorem drop_getD {α:Type} {ys xs:List α} {j:Nat} {z : α} (h:ys.drop j=xs.drop j) (hj:j < xs.length):ys.getD j z=xs[j]:=by
 have h1:(ys.drop j)[0]? = (xs.drop j)[0]?:=by rw [h]
 rw [List.getElem?_drop,List.getElem?_drop,Nat.add_zero,List.getElem?_eq_getElem hj] at h1;rw [List.getD_eq_getElem?_getD,h1];rfl
theorem R_block {α:Type} {d:Kd α} {e:Nat} {W:World} {base g n cap:Nat} {ok:Nat→Prop} {xs:List α} (h:Kd.R d e W base ok (.slice (some ⟨g,0,none⟩) n cap) xs):∃ cur,base≤g∧W.heap[g]? = some (.cells cur e (0,0))∧n≤cap∧cap≤maxLen∧cur.size=cap * d.sz:=by
 obtain ⟨h0,inner,⟨hil,ho⟩,hr⟩:=h;rcases ho with ⟨hv,_⟩|⟨g',cap',cur,hv,hb,hh,h1,h2,h3,h4⟩
 ·
  cases hv
 ·
  injection hv with e1 e2 e3;injection e1 with e1;injection e1 with e1;subst e1 e3;exact ⟨cur,hb,hh,by omega,h2,h3⟩
theorem cell_some {W:World} {g e o:Nat} {cur:Array Value} (h:W.heap[g]? = some (.cells cur e (0,0))) (ho:o < cur.size):(W.cell? ⟨g,o,none⟩).isSome=true:=by
 simp [World.cell?,h,ho]
theorem zeroCells_one {z:Array Value} (n:Nat) (h:∀ u∈z,u.oneCell' = true):∀ v∈(Builtin.zeroCells z n).toList,v.oneCell' = true:=by
 intro v hv;unfold Builtin.zeroCells at hv;rw [Array.toList_map] at hv;obtain ⟨i,hi,rfl⟩:=List.mem_map.1 hv;have hi2:i < n * z.size:=by simpa using hi
 have hz : 0 < z.size:=by
  rcases Nat.eq_zero_or_pos z.size with h0|h0
  ·
   rw [h0] at hi2;omega
  ·
   exact h0
 have hm:=Nat.mod_lt i hz;rw [getElem!_pos z (i % z.size) hm];exact h _ (Array.getElem_mem hm)
theorem R_cut {α:Type} {d:Kd α} {e:Nat} {W:World} {base g n cap:Nat} {ok:Nat→Prop} {xs:List α} (h:Kd.R d e W base ok (.slice (some ⟨g,0,none⟩) n cap) xs) (m:Nat) (hm:m≤xs.length) (zs:List Value) (hz:m * d.sz+zs.length≤cap * d.sz) :
  Kd.R d e (W.setCells g (m * d.sz) zs) base ok (.slice (some ⟨g,0,none⟩) m cap) (xs.take m)∧W.grownBy (W.setCells g (m * d.sz) zs) (some g):=by
 obtain ⟨h0,inner,⟨hil,ho⟩,hr⟩:=h;have hgo:∀ {n' : Nat},(Value.slice (some ⟨g,0,none⟩) n' cap).ownBlock=some g:=fun {n'}=>by simp [Value.ownBlock]
 rcases ho with ⟨hv,_⟩|⟨g',cap',cur,hv,hb,hh,h1,h2,h3,h4⟩
 ·
  cases hv
 ·
  injection hv with e1 e2 e3;injection e1 with e1;injection e1 with e1;subst e1 e3;obtain ⟨cur',c1,c2,c3⟩:=setCells_row zs (m * d.sz) W cur hh (by rw [h3];exact hz);have hms:m * d.sz≤xs.length * d.sz:=Nat.mul_le_mul_right _ hm;have hml:(xs.take m).length=m:=by rw [length_take];omega
  obtain ⟨s1,s2,s3,s4⟩:=setCells_same g zs (m * d.sz) W;refine ⟨⟨fun k hk=>h0 k (by rw [hgo] at hk ⊢;exact hk),inner.take (m * d.sz),⟨by rw [hml,length_take,hil];omega,.inr ⟨g,cap,cur',by rw [hml],hb,c1,by rw [hml];omega,h2,c2.trans h3,?_⟩⟩,by rw [hml,length_take,hil];omega,fun j p hj=>?_⟩,⟨s1,s2,s3,Nat.le_of_eq s4.symm,fun k _ hk=>setCells_far zs _ k (fun e=>hk (by rw [e]))⟩⟩
  ·
   rw [hml,c3,List.append_assoc,List.take_append_of_le_length (by rw [length_take,Array.length_toList,h3];omega),List.take_take,Nat.min_self,← h4,List.take_take];congr 1;omega
  ·
   have hjm:j < m:=by have:=(List.getElem?_eq_some_iff.1 hj).1;omega
   rw [List.getElem?_take,if_pos hjm] at hj;have hM:=hr.2 j p hj;have hjs:j * d.sz+d.sz≤m * d.sz:=by rw [← Nat.succ_mul];exact Nat.mul_le_mul_right _ hjm
   rw [List.drop_take,List.take_take,Nat.min_eq_left (by omega)];refine d.M_move (fun k hk=>setCells_far zs _ k (fun e=>hk.2 (by rw [e,hgo]))) (d.M_mono (fun k hk=>⟨hk.1,by rw [hgo] at hk ⊢;exact hk.2⟩) hM)
theorem below_box {W w' : World} {o:Obj} (h:Below (W.alloc o).heap.size (W.alloc o) w'):Below W.heap.size W w':=((Below.refl _ W).alloc (Nat.le_refl _) _).trans (h.mono (by simp))
def KeptIn {α:Type} (p : α→Bool) (xs ys:List α) (i j:Nat):Prop:=ys.length=xs.length∧ys.take i=(xs.take j).filter (fun x=>!p x)∧ys.drop j=xs.drop j∧((xs.take j).filter (fun x=>!p x)).length=i
theorem KeptIn.skip {α:Type} {p : α→Bool} {xs ys:List α} {i j:Nat} (h:KeptIn p xs ys i j) (hj:j < xs.length) (hp:p xs[j]=true):KeptIn p xs ys i (j+1):=by
 obtain ⟨h1,h2,h3,h4⟩:=h;have e:(xs.take (j+1)).filter (fun x=>!p x)=(xs.take j).filter (fun x=>!p x):=by
  rw [List.take_succ_eq_append_getElem hj,List.filter_append];simp [hp]
 refine ⟨h1,by rw [e];exact h2,?_,by rw [e];exact h4⟩;rw [← List.drop_drop,← List.drop_drop,h3]
theorem KeptIn.keep {α:Type} {p : α→Bool} {xs ys:List α} {i j:Nat} (h:KeptIn p xs ys i j) (hij:i < j) (hj:j < xs.length) (hp:p xs[j]=false):KeptIn p xs (ys.set i xs[j]) (i+1) (j+1):=by
 obtain ⟨h1,h2,h3,h4⟩:=h;have e:(xs.take (j+1)).filter (fun x=>!p x)=(xs.take j).filter (fun x=>!p x) ++ [xs[j]]:=by
  rw [List.take_succ_eq_append_getElem hj,List.filter_append];simp [hp]
 refine ⟨by rw [List.length_set];exact h1,?_,?_,by rw [e,List.length_append,h4];rfl⟩
 ·
  rw [e,← h2,List.take_succ_eq_append_getElem (by rw [List.length_set];omega)];rw [List.take_set_of_le (Nat.le_refl _),List.getElem_set_self]
 ·
  rw [List.drop_set_of_lt (by omega),← List.drop_drop,← List.drop_drop,h3]
theorem kept_start {α:Type} (p : α→Bool) (xs:List α) (k:Nat) (hk:k < xs.length) (hb:∀ j x,j < k→xs[j]? = some x→p x=false) (hp:p xs[k]=true):(xs.take (k+1)).filter (fun x=>!p x)=xs.take k:=by
 rw [List.take_succ_eq_append_getElem hk,List.filter_append];have h1:(xs.take k).filter (fun x=>!p x)=xs.take k:=by
  rw [List.filter_eq_self];intro x hx;obtain ⟨j,hj,rfl⟩:=List.getElem_of_mem hx;rw [length_take] at hj;rw [List.getElem_take];simp [hb j _ (by omega) (List.getElem?_eq_getElem (by omega))]
 rw [h1];simp [hp]
set_option maxHeartbeats 4000000 in
theorem delete30_calls (cl:Nat) (lb:Array Value) (eg:∀ args w,(callFunc cl args).run Try.prog w = .ok (.enter cl args) w) (p:S30→Bool) (Okw:World→Prop) (hok1:∀ W W',Okw W→Below W.heap.size W W'→Okw W') (g cap base:Nat) (ok:Nat→Prop) (xs:List S30) (w:World) (hok2:∀ W W',Okw W→W.grownBy W' (some g)→Okw W')
  (PR:∀ (W:World) (x:S30) (cs:Array Value),Okw W→x∈xs→k30.K W x cs.toList→Calls Try.prog cl (#[.agg cs]++lb) W fun e w'=>e = .returned (.bool (p x))∧Below W.heap.size W w') (hR:Kd.R k30 30 w base ok (.slice (some ⟨g,0,none⟩) xs.length cap) xs) (hw:Okw w) :
  Calls Try.prog 50 #[.slice (some ⟨g,0,none⟩) xs.length cap,.func (.func cl) #[] lb] w fun e w'=>e = .returned (.slice (some ⟨g,0,none⟩) (xs.filter fun x=>!p x).length cap)∧Kd.R k30 30 w' base ok (.slice (some ⟨g,0,none⟩) (xs.filter fun x=>!p x).length cap) (xs.filter fun x=>!p x)∧Gr g w w':=by
 obtain ⟨A_,c_,he_,hl_,hC⟩:=Kd.R_reads hR;injection he_ with he1 _ he2;subst he1;subst he2;have hidx:=index30_calls cl lb eg p Okw hok1 (some ⟨g,0,none⟩) cap xs w PR hC hw;have hlg:=Kd.R_lt hR g (by simp [Value.ownBlock]);have hm0:xs.length≤9223372036854775807:=hC.2.1;have hu:=Try.underlying30;have HR:=zzm hR;have HW:=zzm hw;have HPR:=zzm PR;have a0:=zzm hok1;have a1:=zzm hok2;have HLC:=zzm hl_;clear hR hw PR hok1 hok2 hC hl_;rcases firstAt_spec p xs with ⟨e1,hall⟩|⟨k0,hk0,e1,ht,hbef⟩
 ·
  rw [e1] at hidx;have hf:(xs.filter fun x=>!p x)=xs:=by rw [List.filter_eq_self];intro x hx;simp [hall x hx]
  rw [hf];have HI:=zzm hidx;clear hidx;go_enter Try.func50,Try.ntmps50;go_wp2_with (go_at_call 75;refine HI.out.mono ?_;rintro e w' ⟨rfl,hb2⟩;have HB2:=zzm hb2;clear hb2);go_ret;exact ⟨rfl,Kd.R_below HR.out HB2.out,Gr.of_below (Nat.le_of_lt hlg) HB2.out⟩
 ·
  rw [e1] at hidx;have HI:=zzm hidx;have hne1:((k0:Int) == -1)=false:=beq_eq_false_iff_ne.2 (by omega);have HT:=zzm ht;have HBF:=zzm hbef;clear hidx ht hbef e1;go_enter Try.func50,Try.ntmps50;go_wp2_with (go_at_call 75;refine HI.out.mono ?_;rintro e w' ⟨rfl,hb2⟩;have HB2:=zzm hb2;clear hb2);go_loopg [5,6,7] xs.length (fun gg s5 s6 _ wr=>∃ (i j:Nat) (ys:List S30),s5 = .int .i64 i∧s6 = .int .i64 j∧i < j∧j≤xs.length∧xs.length - j≤gg∧Aside0 (KeptIn p xs ys i j)∧Aside0 (Kd.R k30 30 wr base ok (.slice (some ⟨g,0,none⟩) xs.length cap) ys)∧Aside0 (Gr g w wr)∧Aside0 (Okw wr))
  case atStart=>
   refine ⟨k0,k0+1,xs,rfl,by go_num,by omega,by omega,by omega,⟨rfl,?_,rfl,?_⟩,⟨Kd.R_below HR.out HB2.out⟩,⟨Gr.of_below (Nat.le_of_lt hlg) HB2.out⟩,⟨a0.out _ _ HW.out HB2.out⟩⟩
   ·
    exact (kept_start p xs k0 hk0 HBF.out HT.out).symm
   ·
    rw [kept_start p xs k0 hk0 HBF.out HT.out,length_take];omega
  case round=>
   obtain ⟨i,j,ys,rfl,rfl,hij,hj,hgg,HY,HRY,HG,HW2⟩:=hrel;have hyl:=HY.out.1;have hgy:g < wr.heap.size:=Nat.lt_of_lt_of_le hlg HG.out.1;by_cases hlt:j < xs.length
   ·
    have hltz:(j:Int) < (xs.length:Int):=by omega
    obtain ⟨c,hcl,hM,hcc,hfr⟩:=Kd.R_elem HRY.out z30 (j:Int) (by omega) (by omega);simp only [Int.toNat_natCast,show k30.sz=6 from rfl] at hM hcc hfr;rw [drop_getD HY.out.2.2.1 hlt] at hM;have hmem:=List.getElem_mem hlt;generalize hx:xs[j]=x at hM hmem;have HX:=zzm hx;clear hx;obtain ⟨v3,v5,rfl,g3,g5⟩:=k30_openM hM;obtain ⟨A3,c3,rfl⟩:=Kd.R_slice g3;obtain ⟨A5,c5,rfl⟩:=Kd.R_slice g5;have x0:wr.cell? ⟨g,j * 6,none⟩=some (.int .i64 x.f0):=hcc 0 _ rfl;have x1:wr.cell? ⟨g,j * 6+1,none⟩=some (.int .i64 x.f1):=hcc 1 _ rfl;have x2:wr.cell? ⟨g,j * 6+2,none⟩=some (.bool x.f2):=hcc 2 _ rfl;have x3:wr.cell? ⟨g,j * 6+3,none⟩=some (.slice A3 x.f3.length c3):=hcc 3 _ rfl;have x4:wr.cell? ⟨g,j * 6+4,none⟩=some (.bool x.f4):=hcc 4 _ rfl;have x5:wr.cell? ⟨g,j * 6+5,none⟩=some (.slice A5 x.f5.length c5):=hcc 5 _ rfl;have HM:=zzm hM;have hcall:=HPR.out (wr.alloc (.cells #[.int .i64 x.f0,.int .i64 x.f1,.bool x.f2,.slice A3 x.f3.length c3,.bool x.f4,.slice A5 x.f5.length c5] 30)) x #[.int .i64 x.f0,.int .i64 x.f1,.bool x.f2,.slice A3 x.f3.length c3,.bool x.f4,.slice A5 x.f5.length c5] (a0.out _ _ HW2.out ((Below.refl _ wr).alloc (Nat.le_refl _) _)) hmem (k30.K_below ((Below.refl _ wr).alloc (Nat.le_refl _) _) (k30.K_of_M hM));have HCC:=zzm hcc;clear hM hcc hfr hcl g3 g5;have hbnew:=World.alloc_heap_new wr (.cells #[.int .i64 x.f0,.int .i64 x.f1,.bool x.f2,.slice A3 x.f3.length c3,.bool x.f4,.slice A5 x.f5.length c5] 30);cases hq:p x with
    | true=>
     rw [hq] at hcall;have HQ:=zzm hq;have HCA:=zzm hcall;clear hq hcall;go_wp2_with (go_at_fn cl;refine HCA.out.mono ?_;rintro e w' ⟨rfl,hb2⟩;have HB3:=zzm hb2;clear hb2);go_roundg (xs.length - (j+1))
     case measure=>omega
     case rel=>exact ⟨i,j+1,ys,rfl,by go_num,by omega,by omega,Nat.le_refl _,⟨KeptIn.skip HY.out hlt (by rw [HX.out];exact HQ.out)⟩,⟨Kd.R_below HRY.out (below_box HB3.out)⟩,⟨HG.out.trans (Gr.of_below (Nat.le_of_lt hgy) (below_box HB3.out))⟩,⟨a0.out _ _ HW2.out (below_box HB3.out)⟩⟩
    | false=>
     rw [hq] at hcall;have HQ:=zzm hq;have HCA:=zzm hcall;clear hq hcall;go_wp2_with (go_at_fn cl;refine HCA.out.mono ?_;rintro e w2 ⟨rfl,hb2⟩;have hbx:=(hb2.block wr.heap.size (by simp)).trans hbnew;have b0:w2.cell? ⟨wr.heap.size,0,none⟩=some (.int .i64 x.f0):=(by simp [World.cell?,hbx]);have b1:w2.cell? ⟨wr.heap.size,1,none⟩=some (.int .i64 x.f1):=(by simp [World.cell?,hbx]);have b2:w2.cell? ⟨wr.heap.size,2,none⟩=some (.bool x.f2):=(by simp [World.cell?,hbx]);have b3:w2.cell? ⟨wr.heap.size,3,none⟩=some (.slice A3 x.f3.length c3):=(by simp [World.cell?,hbx]);have b4:w2.cell? ⟨wr.heap.size,4,none⟩=some (.bool x.f4):=(by simp [World.cell?,hbx]);have b5:w2.cell? ⟨wr.heap.size,5,none⟩=some (.slice A5 x.f5.length c5):=(by simp [World.cell?,hbx]);obtain ⟨ci,hcli,hMi,hcci,hfri⟩:=Kd.R_elem (Kd.R_below HRY.out (below_box hb2)) z30 (i:Int) (by omega) (by omega);simp only [Int.toNat_natCast,show k30.sz=6 from rfl] at hMi hcci hfri;obtain ⟨t3,t5,rfl,-,-⟩:=k30_openM hMi;have y0:w2.cell? ⟨g,i * 6,none⟩=some _:=hcci 0 _ rfl;have y1:w2.cell? ⟨g,i * 6+1,none⟩=some _:=hcci 1 _ rfl;have y2:w2.cell? ⟨g,i * 6+2,none⟩=some _:=hcci 2 _ rfl;have y3:w2.cell? ⟨g,i * 6+3,none⟩=some _:=hcci 3 _ rfl;have y4:w2.cell? ⟨g,i * 6+4,none⟩=some _:=hcci 4 _ rfl;have y5:w2.cell? ⟨g,i * 6+5,none⟩=some _:=hcci 5 _ rfl;have f0:w2.frozen? ⟨g,i * 6,none⟩=false:=hfri 0;have f1:w2.frozen? ⟨g,i * 6+1,none⟩=false:=hfri 1;have f2:w2.frozen? ⟨g,i * 6+2,none⟩=false:=hfri 2;have f3:w2.frozen? ⟨g,i * 6+3,none⟩=false:=hfri 3;have f4:w2.frozen? ⟨g,i * 6+4,none⟩=false:=hfri 4;have f5:w2.frozen? ⟨g,i * 6+5,none⟩=false:=hfri 5;have HCI:=zzm hcci;have HB3:=zzm hb2;clear hb2 hbx hcci hfri hMi hcli);have hbW:=below_box HB3.out;have hgw:g≤w2.heap.size:=Nat.le_trans (Nat.le_of_lt hgy) hbW.size;have hseg:=Kd.R_seg (Kd.R_below HRY.out hbW) (i:Int) (by omega) (by omega) (seg:=[.int .i64 x.f0,.int .i64 x.f1,.bool x.f2,.slice A3 x.f3.length c3,.bool x.f4,.slice A5 x.f5.length c5]) (j:=0) rfl HCI.out (show 0+6≤6 from Nat.le_refl _) (x':=x) (okp:=fun k=>ok k∧k≠g) (Kd.M_below HM.out hbW) (fun _ hk=>hk);have HS1:=zzm hseg.1;have HS2:=zzm hseg.2;clear hseg;go_roundg (xs.length - (j+1))
     case measure=>omega
     case rel=>exact ⟨i+1,j+1,ys.set i x,by go_num,by go_num,by omega,by omega,Nat.le_refl _,⟨by have h:=KeptIn.keep HY.out hij hlt (by rw [HX.out];exact HQ.out);rw [HX.out] at h;exact h⟩,⟨HS1.out⟩,⟨(HG.out.trans (Gr.of_below (Nat.le_of_lt hgy) hbW)).trans (Gr.of_grown hgw HS2.out)⟩,⟨a1.out _ _ (a0.out _ _ HW2.out hbW) HS2.out⟩⟩
   ·
    obtain rfl:j=xs.length:=by omega
    have hltz:¬ (xs.length:Int) < (xs.length:Int):=by omega
    have hlc:=HLC.out;have hk:=HY.out;unfold KeptIn at hk;rw [List.take_length] at hk;obtain ⟨cur,hbg,hblk,hnc,hcm,hcs⟩:=R_block HRY.out;obtain ⟨zs,hzs⟩:∃ zs,zs=(Builtin.zeroCells (Value.agg #[.int .i64 0,.int .i64 0,.bool false,.slice none 0 0,.bool false,.slice none 0 0]).cells (xs.length - i)).toList:=⟨_,rfl⟩;have hzl:zs.length=(xs.length - i) * 6:=by rw [hzs];simp [Builtin.zeroCells];rfl
    have hz1:∀ v∈zs,v.oneCell' = true:=by
     intro v hv;rw [hzs] at hv;exact zeroCells_one _ (by decide) v hv
    have hsz:k30.sz=6:=rfl;rw [hsz] at hcs;have hfit:i * 6+zs.length≤cur.size:=by rw [hzl,hcs];omega
    have hcl:∀ ty,(Builtin.clear_ #[25] ty #[.slice (some ⟨g,i * 6,none⟩) (xs.length - i) (cap - i)]).run Try.prog wr = .ok (.tuple #[]) (wr.setCells g (i * 6) zs):=fun ty=>run_clear_rows wr 25 30 ty _ Try.underlying25 Try.zeroValue30 g (i * 6) (xs.length - i) (cap - i) (by omega) zs hzs.symm
     (fun q hq=>cell_some hblk (by omega)) (fun q hq=>zzl hblk _) hz1
    have hcut:=R_cut HRY.out i (by omega) zs (by rw [hsz];rw [hcs] at hfit;exact hfit);rw [hsz] at hcut;have a2:=zzm hcut.1;have a3:=zzm hcut.2;have HKK:=zzm hk;clear hcut hblk hzs hk hfit hzl;go_wp2;go_ret;have hk:=HKK.out;have hgw:g≤wr.heap.size:=Nat.le_of_lt hgy;refine ⟨by rw [hk.2.2.2];rfl,?_,HG.out.trans (Gr.of_grown hgw a3.out)⟩;have h:=a2.out;rw [hk.2.1] at h;rw [hk.2.2.2];exact h
set_option maxHeartbeats 4000000 in
theorem delete34_calls (cl:Nat) (lb:Array Value) (eg:∀ args w,(callFunc cl args).run Try.prog w = .ok (.enter cl args) w) (p:S34→Bool) (Okw:World→Prop) (hok1:∀ W W',Okw W→Below W.heap.size W W'→Okw W') (g cap base:Nat) (ok:Nat→Prop) (xs:List S34) (w:World) (hok2:∀ W W',Okw W→W.grownBy W' (some g)→Okw W')
  (PR:∀ (W:World) (x:S34) (cs:Array Value),Okw W→x∈xs→k34.K W x cs.toList→Calls Try.prog cl (#[.agg cs]++lb) W fun e w'=>e = .returned (.bool (p x))∧Below W.heap.size W w') (hR:Kd.R k34 34 w base ok (.slice (some ⟨g,0,none⟩) xs.length cap) xs) (hw:Okw w) :
  Calls Try.prog 52 #[.slice (some ⟨g,0,none⟩) xs.length cap,.func (.func cl) #[] lb] w fun e w'=>e = .returned (.slice (some ⟨g,0,none⟩) (xs.filter fun x=>!p x).length cap)∧Kd.R k34 34 w' base ok (.slice (some ⟨g,0,none⟩) (xs.filter fun x=>!p x).length cap) (xs.filter fun x=>!p x)∧Gr g w w':=by
 obtain ⟨A_,c_,he_,hl_,hC⟩:=Kd.R_reads hR;injection he_ with he1 _ he2;subst he1;subst he2;have hidx:=index34_calls cl lb eg p Okw hok1 (some ⟨g,0,none⟩) cap xs w PR hC hw;have hlg:=Kd.R_lt hR g (by simp [Value.ownBlock]);have hm0:xs.length≤9223372036854775807:=hC.2.1;have hu:=Try.underlying34;have HR:=zzm hR;have HW:=zzm hw;have HPR:=zzm PR;have a0:=zzm hok1;have a1:=zzm hok2;have HLC:=zzm hl_;clear hR hw PR hok1 hok2 hC hl_;rcases firstAt_spec p xs with ⟨e1,hall⟩|⟨k0,hk0,e1,ht,hbef⟩
 ·
  rw [e1] at hidx;have hf:(xs.filter fun x=>!p x)=xs:=by rw [List.filter_eq_self];intro x hx;simp [hall x hx]
  rw [hf];have HI:=zzm hidx;clear hidx;go_enter Try.func52,Try.ntmps52;go_wp2_with (go_at_call 76;refine HI.out.mono ?_;rintro e w' ⟨rfl,hb2⟩;have HB2:=zzm hb2;clear hb2);go_ret;exact ⟨rfl,Kd.R_below HR.out HB2.out,Gr.of_below (Nat.le_of_lt hlg) HB2.out⟩
 ·
  rw [e1] at hidx;have HI:=zzm hidx;have hne1:((k0:Int) == -1)=false:=beq_eq_false_iff_ne.2 (by omega);have HT:=zzm ht;have HBF:=zzm hbef;clear hidx ht hbef e1;go_enter Try.func52,Try.ntmps52;go_wp2_with (go_at_call 76;refine HI.out.mono ?_;rintro e w' ⟨rfl,hb2⟩;have HB2:=zzm hb2;clear hb2);go_loopg [5,6,7] xs.length (fun gg s5 s6 _ wr=>∃ (i j:Nat) (ys:List S34),s5 = .int .i64 i∧s6 = .int .i64 j∧i < j∧j≤xs.length∧xs.length - j≤gg∧Aside0 (KeptIn p xs ys i j)∧Aside0 (Kd.R k34 34 wr base ok (.slice (some ⟨g,0,none⟩) xs.length cap) ys)∧Aside0 (Gr g w wr)∧Aside0 (Okw wr))
  case atStart=>
   refine ⟨k0,k0+1,xs,rfl,by go_num,by omega,by omega,by omega,⟨rfl,?_,rfl,?_⟩,⟨Kd.R_below HR.out HB2.out⟩,⟨Gr.of_below (Nat.le_of_lt hlg) HB2.out⟩,⟨a0.out _ _ HW.out HB2.out⟩⟩
   ·
    exact (kept_start p xs k0 hk0 HBF.out HT.out).symm
   ·
    rw [kept_start p xs k0 hk0 HBF.out HT.out,length_take];omega
  case round=>
   obtain ⟨i,j,ys,rfl,rfl,hij,hj,hgg,HY,HRY,HG,HW2⟩:=hrel;have hyl:=HY.out.1;have hgy:g < wr.heap.size:=Nat.lt_of_lt_of_le hlg HG.out.1;by_cases hlt:j < xs.length
   ·
    have hltz:(j:Int) < (xs.length:Int):=by omega
    obtain ⟨c,hcl,hM,hcc,hfr⟩:=Kd.R_elem HRY.out z34 (j:Int) (by omega) (by omega);simp only [Int.toNat_natCast,show k34.sz=6 from rfl] at hM hcc hfr;rw [drop_getD HY.out.2.2.1 hlt] at hM;have hmem:=List.getElem_mem hlt;generalize hx:xs[j]=x at hM hmem;have HX:=zzm hx;clear hx;obtain ⟨v5,rfl,g5⟩:=k34_openM hM;obtain ⟨A5,c5,rfl⟩:=Kd.R_slice g5;have x0:wr.cell? ⟨g,j * 6,none⟩=some (.bool x.f0):=hcc 0 _ rfl;have x1:wr.cell? ⟨g,j * 6+1,none⟩=some (.bool x.f1):=hcc 1 _ rfl;have x2:wr.cell? ⟨g,j * 6+2,none⟩=some (.int .i64 x.f2):=hcc 2 _ rfl;have x3:wr.cell? ⟨g,j * 6+3,none⟩=some (.int .i64 x.f3):=hcc 3 _ rfl;have x4:wr.cell? ⟨g,j * 6+4,none⟩=some (.int .i64 x.f4):=hcc 4 _ rfl;have x5:wr.cell? ⟨g,j * 6+5,none⟩=some (.slice A5 x.f5.length c5):=hcc 5 _ rfl;have HM:=zzm hM;have hcall:=HPR.out (wr.alloc (.cells #[.bool x.f0,.bool x.f1,.int .i64 x.f2,.int .i64 x.f3,.int .i64 x.f4,.slice A5 x.f5.length c5] 34)) x #[.bool x.f0,.bool x.f1,.int .i64 x.f2,.int .i64 x.f3,.int .i64 x.f4,.slice A5 x.f5.length c5] (a0.out _ _ HW2.out ((Below.refl _ wr).alloc (Nat.le_refl _) _)) hmem (k34.K_below ((Below.refl _ wr).alloc (Nat.le_refl _) _) (k34.K_of_M hM));have HCC:=zzm hcc;clear hM hcc hfr hcl g5;have hbnew:=World.alloc_heap_new wr (.cells #[.bool x.f0,.bool x.f1,.int .i64 x.f2,.int .i64 x.f3,.int .i64 x.f4,.slice A5 x.f5.length c5] 34);cases hq:p x with
    | true=>
     rw [hq] at hcall;have HQ:=zzm hq;have HCA:=zzm hcall;clear hq hcall;go_wp2_with (go_at_fn cl;refine HCA.out.mono ?_;rintro e w' ⟨rfl,hb2⟩;have HB3:=zzm hb2;clear hb2);go_roundg (xs.length - (j+1))
     case measure=>omega
     case rel=>exact ⟨i,j+1,ys,rfl,by go_num,by omega,by omega,Nat.le_refl _,⟨KeptIn.skip HY.out hlt (by rw [HX.out];exact HQ.out)⟩,⟨Kd.R_below HRY.out (below_box HB3.out)⟩,⟨HG.out.trans (Gr.of_below (Nat.le_of_lt hgy) (below_box HB3.out))⟩,⟨a0.out _ _ HW2.out (below_box HB3.out)⟩⟩
    | false=>
     rw [hq] at hcall;have HQ:=zzm hq;have HCA:=zzm hcall;clear hq hcall;go_wp2_with (go_at_fn cl;refine HCA.out.mono ?_;rintro e w2 ⟨rfl,hb2⟩;have hbx:=(hb2.block wr.heap.size (by simp)).trans hbnew;have b0:w2.cell? ⟨wr.heap.size,0,none⟩=some (.bool x.f0):=(by simp [World.cell?,hbx]);have b1:w2.cell? ⟨wr.heap.size,1,none⟩=some (.bool x.f1):=(by simp [World.cell?,hbx]);have b2:w2.cell? ⟨wr.heap.size,2,none⟩=some (.int .i64 x.f2):=(by simp [World.cell?,hbx]);have b3:w2.cell? ⟨wr.heap.size,3,none⟩=some (.int .i64 x.f3):=(by simp [World.cell?,hbx]);have b4:w2.cell? ⟨wr.heap.size,4,none⟩=some (.int .i64 x.f4):=(by simp [World.cell?,hbx]);have b5:w2.cell? ⟨wr.heap.size,5,none⟩=some (.slice A5 x.f5.length c5):=(by simp [World.cell?,hbx]);obtain ⟨ci,hcli,hMi,hcci,hfri⟩:=Kd.R_elem (Kd.R_below HRY.out (below_box hb2)) z34 (i:Int) (by omega) (by omega);simp only [Int.toNat_natCast,show k34.sz=6 from rfl] at hMi hcci hfri;obtain ⟨t5,rfl,-⟩:=k34_openM hMi;have y0:w2.cell? ⟨g,i * 6,none⟩=some _:=hcci 0 _ rfl;have y1:w2.cell? ⟨g,i * 6+1,none⟩=some _:=hcci 1 _ rfl;have y2:w2.cell? ⟨g,i * 6+2,none⟩=some _:=hcci 2 _ rfl;have y3:w2.cell? ⟨g,i * 6+3,none⟩=some _:=hcci 3 _ rfl;have y4:w2.cell? ⟨g,i * 6+4,none⟩=some _:=hcci 4 _ rfl;have y5:w2.cell? ⟨g,i * 6+5,none⟩=some _:=hcci 5 _ rfl;have f0:w2.frozen? ⟨g,i * 6,none⟩=false:=hfri 0;have f1:w2.frozen? ⟨g,i * 6+1,none⟩=false:=hfri 1;have f2:w2.frozen? ⟨g,i * 6+2,none⟩=false:=hfri 2;have f3:w2.frozen? ⟨g,i * 6+3,none⟩=false:=hfri 3;have f4:w2.frozen? ⟨g,i * 6+4,none⟩=false:=hfri 4;have f5:w2.frozen? ⟨g,i * 6+5,none⟩=false:=hfri 5;have HCI:=zzm hcci;have HB3:=zzm hb2;clear hb2 hbx hcci hfri hMi hcli);have hbW:=below_box HB3.out;have hgw:g≤w2.heap.size:=Nat.le_trans (Nat.le_of_lt hgy) hbW.size;have hseg:=Kd.R_seg (Kd.R_below HRY.out hbW) (i:Int) (by omega) (by omega) (seg:=[.bool x.f0,.bool x.f1,.int .i64 x.f2,.int .i64 x.f3,.int .i64 x.f4,.slice A5 x.f5.length c5]) (j:=0) rfl HCI.out (show 0+6≤6 from Nat.le_refl _) (x':=x) (okp:=fun k=>ok k∧k≠g) (Kd.M_below HM.out hbW) (fun _ hk=>hk);have HS1:=zzm hseg.1;have HS2:=zzm hseg.2;clear hseg;go_roundg (xs.length - (j+1))
     case measure=>omega
     case rel=>exact ⟨i+1,j+1,ys.set i x,by go_num,by go_num,by omega,by omega,Nat.le_refl _,⟨by have h:=KeptIn.keep HY.out hij hlt (by rw [HX.out];exact HQ.out);rw [HX.out] at h;exact h⟩,⟨HS1.out⟩,⟨(HG.out.trans (Gr.of_below (Nat.le_of_lt hgy) hbW)).trans (Gr.of_grown hgw HS2.out)⟩,⟨a1.out _ _ (a0.out _ _ HW2.out hbW) HS2.out⟩⟩
   ·
    obtain rfl:j=xs.length:=by omega
    have hltz:¬ (xs.length:Int) < (xs.length:Int):=by omega
    have hlc:=HLC.out;have hk:=HY.out;unfold KeptIn at hk;rw [List.take_length] at hk;obtain ⟨cur,hbg,hblk,hnc,hcm,hcs⟩:=R_block HRY.out;obtain ⟨zs,hzs⟩:∃ zs,zs=(Builtin.zeroCells (Value.agg #[.bool false,.bool false,.int .i64 0,.int .i64 0,.int .i64 0,.slice none 0 0]).cells (xs.length - i)).toList:=⟨_,rfl⟩;have hzl:zs.length=(xs.length - i) * 6:=by rw [hzs];simp [Builtin.zeroCells];rfl
    have hz1:∀ v∈zs,v.oneCell' = true:=by
     intro v hv;rw [hzs] at hv;exact zeroCells_one _ (by decide) v hv
    have hsz:k34.sz=6:=rfl;rw [hsz] at hcs;have hfit:i * 6+zs.length≤cur.size:=by rw [hzl,hcs];omega
    have hcl:∀ ty,(Builtin.clear_ #[23] ty #[.slice (some ⟨g,i * 6,none⟩) (xs.length - i) (cap - i)]).run Try.prog wr = .ok (.tuple #[]) (wr.setCells g (i * 6) zs):=fun ty=>run_clear_rows wr 23 34 ty _ Try.underlying23 Try.zeroValue34 g (i * 6) (xs.length - i) (cap - i) (by omega) zs hzs.symm
     (fun q hq=>cell_some hblk (by omega)) (fun q hq=>zzl hblk _) hz1
    have hcut:=R_cut HRY.out i (by omega) zs (by rw [hsz];rw [hcs] at hfit;exact hfit);rw [hsz] at hcut;have a2:=zzm hcut.1;have a3:=zzm hcut.2;have HKK:=zzm hk;clear hcut hblk hzs hk hfit hzl;go_wp2;go_ret;have hk:=HKK.out;have hgw:g≤wr.heap.size:=Nat.le_of_lt hgy;refine ⟨by rw [hk.2.2.2];rfl,?_,HG.out.trans (Gr.of_grown hgw a3.out)⟩;have h:=a2.out;rw [hk.2.1] at h;rw [hk.2.2.2];exact h
end
section
open Go.Shelf
set_option maxHeartbeats 4000000 in
theorem cl1_calls (b0 b1 r2 r4 gone:Bool) (b2 b3 b4 r0 r1 c:Int) (P3 P5 P6:Option Addr) (n5 q5 q3 n6 q6:Nat) (Bst Bb Bm Bg bm nn:Nat) (key:List Int) (D:DataW Unit) (w:World)
  (hst:Boxed w Bst 52 (.func (.func 69) #[] #[.pointer (some ⟨Bm,0,none⟩),.pointer (some ⟨Bg,0,none⟩)])) (hBb:w.heap[Bb]? = some (.cells #[.bool b0,.bool b1,.int .i64 b2,.int .i64 b3,.int .i64 b4,.slice P5 n5 q5] 34 (0,0)))
  (hBm:Boxed w Bm 80 (.map (some bm))) (hBg:Boxed w Bg 4 (.bool gone)) (hown:w.ownsMap Try.prog 9 (plainElem Try.prog 3) bm nn D) (hk:(Kd.int .i64).C w P3 key.length key) (hq:key.length≤q3)
  (hok:r2=true→keyOk key=true) (hc:r2=true→D.atKey (.string (hexOf key)) (.lit (.int .i64 0)) = .lit (.int .i64 c)) :
  Calls Try.prog 51 #[.agg #[.int .i64 r0,.int .i64 r1,.bool r2,.slice P3 key.length q3,.bool r4,.slice P6 n6 q6],.pointer (some ⟨Bst,0,none⟩),.pointer (some ⟨Bb,0,none⟩)] w fun e w'=>e = .returned (.bool (!(b1||(r2&&((c==r0)&&(r4||gone))))))∧Below w.heap.size w w':=by
 have hba:=(Below.refl w.heap.size w).alloc (Nat.le_refl _) (.cells #[.int .i64 r0,.int .i64 r1,.bool r2,.slice P3 key.length q3,.bool r4,.slice P6 n6 q6] 30);have HS:=zzm (stays_calls b0 b1 r2 r4 gone b2 b3 b4 r0 r1 c P3 P5 P6 n5 q5 q3 n6 q6 Bm Bg bm nn key D (w.alloc (.cells #[.int .i64 r0,.int .i64 r1,.bool r2,.slice P3 key.length q3,.bool r4,.slice P6 n6 q6] 30)) (hBm.alloc _) (hBg.alloc _) (hown.alloc _) (Kd.C_alloc hk _) hq hok hc);have hBa:(w.alloc (.cells #[.int .i64 r0,.int .i64 r1,.bool r2,.slice P3 key.length q3,.bool r4,.slice P6 n6 q6] 30)).heap[Bb]? = some (.cells #[.bool b0,.bool b1,.int .i64 b2,.int .i64 b3,.int .i64 b4,.slice P5 n5 q5] 34 (0,0)):=(((Below.refl w.heap.size w).alloc (Nat.le_refl _) _).block _ (Array.getElem?_eq_some_iff.1 hBb).1).trans hBb;have cst:(w.alloc (.cells #[.int .i64 r0,.int .i64 r1,.bool r2,.slice P3 key.length q3,.bool r4,.slice P6 n6 q6] 30)).cell? ⟨Bst,0,none⟩ = _:=(hst.alloc _).cell;have m0:(w.alloc (.cells #[.int .i64 r0,.int .i64 r1,.bool r2,.slice P3 key.length q3,.bool r4,.slice P6 n6 q6] 30)).cell? ⟨Bb,0,none⟩=some (.bool b0):=by simp [World.cell?,hBa]
 have m1:(w.alloc (.cells #[.int .i64 r0,.int .i64 r1,.bool r2,.slice P3 key.length q3,.bool r4,.slice P6 n6 q6] 30)).cell? ⟨Bb,1,none⟩=some (.bool b1):=by simp [World.cell?,hBa]
 have m2:(w.alloc (.cells #[.int .i64 r0,.int .i64 r1,.bool r2,.slice P3 key.length q3,.bool r4,.slice P6 n6 q6] 30)).cell? ⟨Bb,2,none⟩=some (.int .i64 b2):=by simp [World.cell?,hBa]
 have m3:(w.alloc (.cells #[.int .i64 r0,.int .i64 r1,.bool r2,.slice P3 key.length q3,.bool r4,.slice P6 n6 q6] 30)).cell? ⟨Bb,3,none⟩=some (.int .i64 b3):=by simp [World.cell?,hBa]
 have m4:(w.alloc (.cells #[.int .i64 r0,.int .i64 r1,.bool r2,.slice P3 key.length q3,.bool r4,.slice P6 n6 q6] 30)).cell? ⟨Bb,4,none⟩=some (.int .i64 b4):=by simp [World.cell?,hBa]
 have m5:(w.alloc (.cells #[.int .i64 r0,.int .i64 r1,.bool r2,.slice P3 key.length q3,.bool r4,.slice P6 n6 q6] 30)).cell? ⟨Bb,5,none⟩=some (.slice P5 n5 q5):=by simp [World.cell?,hBa]
 have HBA:=zzm hba;clear hBa hst hBb hBm hBg hown hk hok hc hba;go_enter Try.func51,Try.ntmps51;go_wp2_with (go_at_call 69;refine HS.out.mono ?_;rintro e w2 ⟨rfl,hb2⟩);go_ret;exact ⟨by generalize (c==r0)=z;cases b1 <;> cases r2 <;> cases r4 <;> cases gone <;> cases z <;> rfl,HBA.out.trans (hb2.mono (by simp))⟩
set_option maxHeartbeats 4000000 in
theorem cl2_calls (b0 b1:Bool) (b2 b3 b4:Int) (P5:Option Addr) (n5 q5:Nat) (w:World) :
  Calls Try.prog 53 #[.agg #[.bool b0,.bool b1,.int .i64 b2,.int .i64 b3,.int .i64 b4,.slice P5 n5 q5]] w fun e w'=>e = .returned (.bool (decide (n5=0)))∧Below w.heap.size w w':=by
 have hz:((n5:Int)==0)=decide (n5=0):=by
  by_cases h:n5=0
  ·
   subst h;rfl
  ·
   rw [decide_eq_false h];exact beq_eq_false_iff_ne.2 (by omega)
 go_enter Try.func53,Try.ntmps53;go_wp2;go_ret;exact ⟨by first|rfl|(rw [← hz];rfl),(Below.refl _ w).alloc (Nat.le_refl _) _⟩
end
section
open Go.Shelf
@[local go_sem] theorem run_store_func2 {P:Program} {w:World} {a:Addr} {m:Mode} (f:Fn) (b c:Array Value):(store a (.func f b c) m).run P w=stored P w a (.func f b c) m:=run_store P w a _ m rfl
def stayR (l:List S34) (mk gone:Bool) (r:S30):Bool:=mk||(r.f2&&((lastOff l (pts l) (hexOf r.f3)==r.f0)&&(r.f4||gone)))
def stB (l:List S34) (gone:Bool) (b:S34):S34:=⟨b.f0,b.f1,b.f2,b.f3,b.f4,b.f5.filter (stayR l b.f1 gone)⟩
def cmpOut (l:List S34) (gone:Bool):List S34:=(l.map (stB l gone)).filter (fun b=>!decide (b.f5.length=0))
def full (l:List S34):Bool:=l.all fun b=>decide (0 < b.f5.length)
def mixL (l:List S34) (gone:Bool) (m:Nat):List S34:=(l.take m).map (stB l gone)++l.drop m
theorem mixL_len (l:List S34) (gone:Bool) (m:Nat) (hm:m≤l.length):(mixL l gone m).length=l.length:=by simp [mixL];omega
theorem mixL_at (l:List S34) (gone:Bool) (m:Nat) (hm:m < l.length) (z:S34):(mixL l gone m).getD m z=l[m]:=by
 unfold mixL;rw [List.getD_eq_getElem?_getD,List.getElem?_append_right (by simp;omega)];simp [hm,Nat.min_eq_left (Nat.le_of_lt hm)]
theorem mixL_set (l:List S34) (gone:Bool) (m:Nat) (hm:m < l.length):(mixL l gone m).set m (stB l gone l[m])=mixL l gone (m+1):=by
 unfold mixL;have hl:((l.take m).map (stB l gone)).length=m:=by simp;omega
 rw [List.set_append_right _ _ (by omega),hl,Nat.sub_self,List.drop_eq_getElem_cons hm,zzr,List.take_succ_eq_append_getElem hm,List.map_append];simp
def Qu.f (k:Nat) (l0:List S34) (a1:Bool):Option (List S34×Bool):=(Qo.f k l0).bind fun t=>if t=true then (if okLog l0=true∧full l0=true then some (cmpOut l0 a1,true) else none) else some ([],false)
theorem full_len {l:List S34} (h:full l=true) (h2:okLog l=true):l.length≤1000000:=by
 have h3:=okLog_len h2;have:∀ i,i≤l.length→i≤(ptsTo l i).length:=by
  intro i;induction i with
  | zero=>intro _;exact Nat.zero_le _
  | succ i ih=>
   intro hi;have h4:=ih (by omega);have h5 : 0 < (Qa l (i:Int)).f5.length:=by
    rw [rd_at_B (show i < l.length by omega)];unfold full at h;have:=List.all_eq_true.1 h _ (List.getElem_mem (show i < l.length by omega));simpa using this
   rw [ptsTo_succ,List.length_append];unfold ptsRow;rw [List.length_map,List.length_range];omega
 have:=this l.length (Nat.le_refl _);show l.length≤1000000;have h6:(ptsTo l l.length).length≤1000000:=h3;omega
set_option maxHeartbeats 4000000 in
theorem deleteB_empty (cl:Nat) (lb:Array Value) (eg:∀ args w,(callFunc cl args).run Try.prog w = .ok (.enter cl args) w) (A:Option Addr) (c:Nat) (w:World) (hC:Kd.C k34 w A 0 [])
  (PR:∀ (W:World) (x:S34) (cs:Array Value),True→x∈([]:List S34)→k34.K W x cs.toList→Calls Try.prog cl (#[.agg cs]++lb) W fun e w'=>e = .returned (.bool (decide (x.f5.length=0)))∧Below W.heap.size W w') :
  Calls Try.prog 52 #[.slice A 0 c,.func (.func cl) #[] lb] w fun e w'=>e = .returned (.slice A 0 c)∧Below w.heap.size w w':=by
 have HI:=zzm (index34_calls cl lb eg (fun x=>decide (x.f5.length=0)) (fun _=>True) (fun _ _ _ _=>trivial) A c [] w PR hC trivial);go_enter Try.func52,Try.ntmps52;go_wp2_with (go_at_call 76;refine HI.out.mono ?_;rintro e w' ⟨rfl,hb2⟩;have HB2:=zzm hb2;clear hb2;rw [show firstAt (fun x:S34=>decide (x.f5.length=0)) [] = -1 from rfl]);go_ret;exact ⟨rfl,HB2.out⟩
set_option maxHeartbeats 4000000 in
theorem Qu.calls (k:Nat) (A0:Option Addr) (c0:Nat) (l0:List (S34)) (a1:Bool) (r1:List (S34)) (r2:Bool) (w:World) (a3:Kd.C k34 w A0 l0.length l0) (a4:l0.length≤c0) (h:Qu.f k l0 a1=some (r1,r2)) :
  Calls Try.prog 23 #[.slice A0 l0.length c0,.bool a1] w fun e w'=>∃ a5:Value,e = .returned (.tuple #[a5,.bool r2])∧Kd.R k34 34 w' w.heap.size (fun _=>True) a5 r1∧Below w.heap.size w w':=by
 unfold Qu.f at h;replace h:=Option.bind_eq_some_iff.mp h;obtain ⟨t0,a6,h⟩:=h;have HV0:=zzm a6;have a0:=zzm a3;have a2:=zzm a4;have hm0:l0.length≤9223372036854775807:=a3.2.1;have hu:=Try.underlying34;clear a3 a4 a6;cases t0 with
 | false=>
  have h1:r1 = []∧r2=false:=by simpa [eq_comm] using h
  obtain ⟨rfl,rfl⟩:=h1;clear h;go_enter Try.func23,Try.ntmps23;go_wp2_with (go_at_call 29;refine (Qo.calls k _ _ l0 _ _ a0.out a2.out HV0.out).mono ?_;rintro e w1 ⟨rfl,hbl⟩;have HBL:=zzm hbl;clear hbl);go_ret2;exact ⟨_,rfl,Kd.R_nil _ _ _ _ _,HBL.out⟩
 | true=>
  have hok:okLog l0=true∧full l0=true∧r1=cmpOut l0 a1∧r2=true:=by
   rw [if_pos rfl] at h;by_cases h5:okLog l0=true∧full l0=true
   ·
    rw [if_pos h5] at h;injection h with h;injection h with h6 h7;exact ⟨h5.1,h5.2,h6.symm,h7.symm⟩
   ·
    rw [if_neg h5] at h;cases h
  obtain ⟨hok,hfl,rfl,rfl⟩:=hok;have HOK:=zzm hok;have HFL:=zzm hfl;have hlen:=full_len hfl hok;clear h hok hfl;go_enter Try.func23,Try.ntmps23;go_wp2_with (first|(go_at_call 29;refine (Qo.calls k _ _ l0 _ _ a0.out a2.out HV0.out).mono ?_;rintro e w1 ⟨rfl,hbl⟩;have HBL:=zzm hbl;clear hbl)|(go_at_call 40;refine (stayer_calls A0 c0 l0 a1 _ (Kd.C_below a0.out HBL.out) a2.out HOK.out).mono ?_;rintro e w2 ⟨Bm,Bg,bm,rfl,hm1,hm2,hm3,hbm,hbg,hown,hb12⟩;have HBM:=zzm hbm;have HBG:=zzm hbg;have HOW:=zzm hown;have HB12:=zzm hb12;clear hbm hbg hown hb12)|(go_at_call 49;refine (copyBatchesS_calls A0 c0 l0 _ (Kd.C_below a0.out ((HBL.out.trans (HB12.out.mono HBL.out.size)).alloc (Nat.le_trans HBL.out.size HB12.out.size) _)) a2.out hlen HOK.out).mono ?_;rintro e w3 ⟨v,rfl,hS3,hb23⟩;have HS3:=zzm hS3;have HB23:=zzm hb23;clear hS3 hb23;obtain ⟨Av,cv,hve⟩:=Kd.S_slice HS3.out;subst hve));have hsz2:=HBL.out.size;have hsz12:=HB12.out.size;have hst3:=Boxed.of_below (Boxed.new w2 52 (.func (.func 69) #[] #[.pointer (some ⟨Bm,0,none⟩),.pointer (some ⟨Bg,0,none⟩)])) HB23.out;have hbm3:=Boxed.of_below (HBM.out.alloc _) HB23.out;have hbg3:=Boxed.of_below (HBG.out.alloc _) HB23.out;have how3:=ownsMap_below (HOW.out.alloc _) HB23.out;have hB3:Below w.heap.size w w3:=((HBL.out.trans (HB12.out.mono HBL.out.size)).alloc (Nat.le_trans HBL.out.size HB12.out.size) _).trans (HB23.out.mono (by simp;omega));have ltm:=HBM.out.lt;have ltg:=HBG.out.lt;have ltb:=HOW.out.lt;obtain ⟨N0,hN0⟩:∃ N0,N0=w2.heap.size+1:=⟨_,rfl⟩;obtain ⟨Bst,hBst⟩:∃ Bst,Bst=w2.heap.size:=⟨_,rfl⟩;have hS3' : Kd.S k34 34 w3 N0 (fun k=>N0≤k) (.slice Av l0.length cv) l0:=by
   have h:=Kd.S_mono (Kd.S_bound HS3.out) (fun k hk=>hk.2.1);rw [World.size_alloc,← hN0] at h;exact h
  have a7:w.heap.size≤N0:=by omega
  have hst3' : Boxed w3 Bst 52 (.func (.func 69) #[] #[.pointer (some ⟨Bm,0,none⟩),.pointer (some ⟨Bg,0,none⟩)]):=by rw [hBst];exact hst3
  have ltS:Bst < N0:=by omega
  have ltM:Bm < N0:=by omega
  have ltG:Bg < N0:=by omega
  have ltB:bm < N0:=by omega
  have HS3':=zzm hS3';have HST3:=zzm hst3';have HBM3:=zzm hbm3;have HBG3:=zzm hbg3;have HOW3:=zzm how3;have HB3:=zzm hB3;rw [← hBst];clear hst3 hst3' hbm3 hbg3 how3 hB3 hS3' ltm ltg ltb HBM HBG HOW HB12 HB23 HS3 hm1 hm2 hm3 HBL hsz2 hsz12 hN0 hBst;go_loopg [8,9,20] l0.length (fun gg _ _ b1 wr=>∃ m:Nat,b1 = .int .i64 m∧m≤l0.length∧l0.length - m≤gg∧Aside0 (Kd.S k34 34 wr N0 (fun k=>N0≤k) (.slice Av l0.length cv) (mixL l0 a1 m))∧Aside0 (Boxed wr Bst 52 (.func (.func 69) #[] #[.pointer (some ⟨Bm,0,none⟩),.pointer (some ⟨Bg,0,none⟩)]))∧Aside0 (Boxed wr Bm 80 (.map (some bm)))∧Aside0 (Boxed wr Bg 4 (.bool a1))∧Aside0 (wr.ownsMap Try.prog 9 (plainElem Try.prog 3) bm (pts l0).length (lastD l0 (pts l0)))∧Aside0 (Below w.heap.size w wr))
  case atStart=>exact ⟨0,by go_num,Nat.zero_le _,by omega,by rw [show mixL l0 a1 0=l0 by simp [mixL]];exact HS3',HST3,HBM3,HBG3,HOW3,HB3⟩
  case round=>
   clear HS3' HST3 HBM3 HBG3 HOW3 HB3;obtain ⟨m,rfl,hm,hgg,HS,HST,HBM,HBG,HOW,HB⟩:=hrel;by_cases hlt:m < l0.length
   ·
    have hltz:(m:Int) < (l0.length:Int):=by omega
    obtain ⟨hn,hnc,hC⟩:=Kd.R_reads' (Kd.S_R HS.out);have hC' : Kd.C k34 wr Av (mixL l0 a1 m).length (mixL l0 a1 m):=hC;clear hn hnc;obtain ⟨ad,_,_,he,_⟩:=Ra hC' (m:Int) (by omega) (by rw [mixL_len l0 a1 m hm];omega);subst he;obtain ⟨G,rfl⟩:=Kd.R_head (Kd.S_R HS.out);obtain ⟨cur,hbG,hblk,hncG,hcmG,hcsG⟩:=R_block (Kd.S_R HS.out);have hltG:G < wr.heap.size:=(Array.getElem?_eq_some_iff.1 hblk).1;obtain ⟨oki,c,hcl,hM,hcc,hfr,hoki,hH⟩:=Kd.S_elem HS.out z34 (m:Int) (by omega) (by omega);simp only [Int.toNat_natCast,show k34.sz=6 from rfl] at hM hcc hfr;rw [mixL_at l0 a1 m hlt] at hM;have hset:=mixL_set l0 a1 m hlt;have hrdm:=rd_at_B hlt;have hpos : 0 < l0[m].f5.length:=by
     have h:=HFL.out;unfold full at h;have:=List.all_eq_true.1 h _ (List.getElem_mem hlt);simpa using this
    generalize l0[m]=b at hM hset hrdm hpos;obtain ⟨v5,rfl,gr5⟩:=k34_openM hM;obtain ⟨A5,c5,b2,b8,hC5⟩:=Kd.R_reads gr5;subst b2;obtain ⟨b9,_,_,_,_,he5,_⟩:=Rg hC5 0 (by omega) (by omega);subst he5;obtain ⟨g5,rfl⟩:=Kd.R_head gr5;have hok5:oki g5:=gr5.1 g5 (by simp [Value.ownBlock]);have hg5:=hoki g5 hok5;have hlt5:g5 < wr.heap.size:=Kd.R_lt gr5 g5 (by simp [Value.ownBlock]);have x0:wr.cell? ⟨G,m * 6,none⟩=some (.bool b.f0):=hcc 0 _ rfl;have x1:wr.cell? ⟨G,m * 6+1,none⟩=some (.bool b.f1):=hcc 1 _ rfl;have x2:wr.cell? ⟨G,m * 6+2,none⟩=some (.int .i64 b.f2):=hcc 2 _ rfl;have x3:wr.cell? ⟨G,m * 6+3,none⟩=some (.int .i64 b.f3):=hcc 3 _ rfl;have x4:wr.cell? ⟨G,m * 6+4,none⟩=some (.int .i64 b.f4):=hcc 4 _ rfl;have x5:wr.cell? ⟨G,m * 6+5,none⟩=some (.slice (some ⟨g5,0,none⟩) b.f5.length c5):=hcc 5 _ rfl;have f5:=hfr 5;obtain ⟨Okw,hOkw⟩:∃ Okw:World→Prop,Okw=fun W=>Boxed W Bst 52 (.func (.func 69) #[] #[.pointer (some ⟨Bm,0,none⟩),.pointer (some ⟨Bg,0,none⟩)])∧W.heap[wr.heap.size]? = some (.cells #[.bool b.f0,.bool b.f1,.int .i64 b.f2,.int .i64 b.f3,.int .i64 b.f4,.slice (some ⟨g5,0,none⟩) b.f5.length c5] 34 (0,0))∧Boxed W Bm 80 (.map (some bm))∧Boxed W Bg 4 (.bool a1)∧W.ownsMap Try.prog 9 (plainElem Try.prog 3) bm (pts l0).length (lastD l0 (pts l0)):=⟨_,rfl⟩;have a8:Okw (wr.alloc (.cells #[.bool b.f0,.bool b.f1,.int .i64 b.f2,.int .i64 b.f3,.int .i64 b.f4,.slice (some ⟨g5,0,none⟩) b.f5.length c5] 34)):=by rw [hOkw];exact ⟨HST.out.alloc _,World.alloc_heap_new wr _,HBM.out.alloc _,HBG.out.alloc _,HOW.out.alloc _⟩
    have hk1:∀ W W',Okw W→Below W.heap.size W W'→Okw W':=by
     rw [hOkw];rintro W W' ⟨o1,o2,o3,o4,o5⟩ hb;exact ⟨Boxed.of_below o1 hb,(hb.block _ (Array.getElem?_eq_some_iff.1 o2).1).trans o2,Boxed.of_below o3 hb,Boxed.of_below o4 hb,ownsMap_below o5 hb⟩
    have hk2:∀ W W',Okw W→W.grownBy W' (some g5)→Okw W':=by
     rw [hOkw];rintro W W' ⟨o1,o2,o3,o4,o5⟩ hg;have hne:∀ q,q≠g5→some q≠some g5:=fun q h e=>h (Option.some.inj e);exact ⟨o1.kept hg (hne _ (by omega)),(hg.block _ (Array.getElem?_eq_some_iff.1 o2).1 (hne _ (by omega))).trans o2,o3.kept hg (hne _ (by omega)),o4.kept hg (hne _ (by omega)),o5.kept hg (hne _ (by omega))⟩
    have hPR:∀ (W:World) (x:S30) (cs:Array Value),Okw W→x∈b.f5→k30.K W x cs.toList→Calls Try.prog 51 (#[.agg cs] ++ #[.pointer (some ⟨Bst,0,none⟩),.pointer (some ⟨wr.heap.size,0,none⟩)]) W fun e w'=>e = .returned (.bool (!stayR l0 b.f1 a1 x))∧Below W.heap.size W w':=by
     rw [hOkw];rintro W x cs ⟨o1,o2,o3,o4,o5⟩ hx hK;obtain ⟨A3,c3,A6,c6,hcs,b3,b4,b5,b6⟩:=k30_open hK;have hcs2:cs = #[.int .i64 x.f0,.int .i64 x.f1,.bool x.f2,.slice A3 x.f3.length c3,.bool x.f4,.slice A6 x.f5.length c6]:=by rw [← Array.toArray_toList (xs:=cs),hcs]
     subst hcs2;obtain ⟨j,hj,rfl⟩:=List.getElem_of_mem hx;have hrc:rcOf l0 (m,j)=b.f5[j]:=by unfold rcOf;dsimp only;rw [hrdm,rd_at_R hj]
     have hkk:=(okLog_at HOK.out (m,j)).2.2.2;rw [hrc] at hkk;exact cl1_calls b.f0 b.f1 b.f5[j].f2 b.f5[j].f4 a1 b.f2 b.f3 b.f4 b.f5[j].f0 b.f5[j].f1 (lastOff l0 (pts l0) (hexOf b.f5[j].f3)) A3 _ A6 _ c5 c3 _ c6 Bst wr.heap.size Bm Bg bm _ b.f5[j].f3 (lastD l0 (pts l0)) W o1 o2 o3 o4 o5 b4 b3 hkk (fun _=>lastD_at l0 (pts l0) _)
    have HD:=delete30_calls 51 #[.pointer (some ⟨Bst,0,none⟩),.pointer (some ⟨wr.heap.size,0,none⟩)] (enters_of Try.func51 (by kernel_rfl) rfl) (fun r=>!stayR l0 b.f1 a1 r) Okw hk1 g5 c5 N0 oki b.f5 (wr.alloc (.cells #[.bool b.f0,.bool b.f1,.int .i64 b.f2,.int .i64 b.f3,.int .i64 b.f4,.slice (some ⟨g5,0,none⟩) b.f5.length c5] 34)) hk2 hPR (Kd.R_alloc gr5 _) a8;simp only [Bool.not_not] at HD;have HDD:=zzm HD;have HCC:=zzm hH;have HSET:=zzm hset;have HGN:=zzm (And.intro hblk (And.intro hg5 hoki));clear HD hPR hk1 hk2 a8 hOkw hC hC' hM hcc hfr hcl hH gr5 hC5 hset hblk hrdm;go_wp2_with (go_at_call 50;refine HDD.out.mono ?_;rintro e w4 ⟨rfl,hR4,hG4⟩;have hGq:w4.heap[G]? = wr.heap[G]?:=(hG4.2.2 G (by simp;omega) (by have:=HGN.out.2.1.2;omega)).trans (Below.heap_alloc _ _ _ hltG);have y5:w4.cell? ⟨G,m * 6+5,none⟩=some (.slice (some ⟨g5,0,none⟩) b.f5.length c5):=((by unfold World.cell?;rw [hGq]):w4.cell? ⟨G,m * 6+5,none⟩=wr.cell? ⟨G,m * 6+5,none⟩).trans x5;have z5:w4.frozen? ⟨G,m * 6+5,none⟩=false:=((by unfold World.frozen?;rw [hGq]):w4.frozen? ⟨G,m * 6+5,none⟩=wr.frozen? ⟨G,m * 6+5,none⟩).trans f5;have b7:=zzm hR4;have HG4:=zzm hG4;clear hR4 hG4 hGq);have hgr:∀ q,q < wr.heap.size→q≠g5→w4.heap[q]? = wr.heap[q]?:=fun q hq hne=>(HG4.out.2.2 q (by simp;omega) hne).trans (Below.heap_alloc _ _ _ hq);have hoki:=HGN.out.2.2;have hgn:=HGN.out.2.1;have hH4:=Kd.H_mono (Kd.H_step HCC.out (w1:=w4) (fun q hq hnq hlq=>hgr q hlq (fun e=>hnq (e ▸ hok5)))) (ok':=fun q=>N0≤q∧¬ False) (fun q hq=>⟨hq,id⟩);have hseg:=Kd.S_seg (okg:=fun _=>False) hH4 (by omega) (by omega) (seg:=[.slice (some ⟨g5,0,none⟩) (b.f5.filter (stayR l0 b.f1 a1)).length c5]) (j:=5) (show 5+1≤6 from Nat.le_refl _) (x':=stB l0 a1 b) (okp:=oki) (k34_mkM w4 N0 oki (stB l0 a1 b) b7.out) (fun _ hk=>.inl hk) (fun _ hk=>hk.elim);rw [show ((m:Int)).toNat=m from rfl,HSET.out] at hseg;have HS5:=zzm hseg.1;have HG5:=hseg.2;have hbx:∀ {q:Nat} {ty:TypeId} {u:Value},q < N0→Boxed wr q ty u→Boxed (w4.setCells G (m * 6+5) [.slice (some ⟨g5,0,none⟩) (b.f5.filter (stayR l0 b.f1 a1)).length c5]) q ty u:=fun {q ty u} hq hb=>(show Boxed w4 q ty u from (hgr q hb.lt (by omega)).trans hb).kept HG5 (fun e=>by have:=Option.some.inj e;omega);have hBf:Below w.heap.size w (w4.setCells G (m * 6+5) [.slice (some ⟨g5,0,none⟩) (b.f5.filter (stayR l0 b.f1 a1)).length c5]):=by
     have h1:=HB.out.alloc HB.out.size (.cells #[.bool b.f0,.bool b.f1,.int .i64 b.f2,.int .i64 b.f3,.int .i64 b.f4,.slice (some ⟨g5,0,none⟩) b.f5.length c5] 34);have h2:=h1.trans (HG4.out.2.1.mono (by omega));exact h2.grown HG5 h2.size (fun q e=>by have:=Option.some.inj e;omega)
    have how:(w4.setCells G (m * 6+5) [.slice (some ⟨g5,0,none⟩) (b.f5.filter (stayR l0 b.f1 a1)).length c5]).ownsMap Try.prog 9 (plainElem Try.prog 3) bm (pts l0).length (lastD l0 (pts l0)):=by
     obtain ⟨es,ck,o1,o2,o3,o4⟩:=HOW.out;have o5:w4.ownsMap Try.prog 9 (plainElem Try.prog 3) bm (pts l0).length (lastD l0 (pts l0)):=⟨es,ck,(hgr bm (Array.getElem?_eq_some_iff.1 o1).1 (by omega)).trans o1,o2,o3,o4⟩;exact o5.kept HG5 (fun e=>by have:=Option.some.inj e;omega)
    have HA1:=zzm (hbx ltS HST.out);have HA2:=zzm (hbx ltM HBM.out);have HA3:=zzm (hbx ltG HBG.out);have HA4:=zzm how;have HA5:=zzm hBf;clear hseg hbx hBf how HG5 hH4 hgr;go_roundg (l0.length - (m+1))
    case measure=>omega
    case rel=>exact ⟨m+1,by go_num,by omega,Nat.le_refl _,HS5,HA1,HA2,HA3,HA4,HA5⟩
   ·
    obtain rfl:m=l0.length:=by omega
    have hltz:¬ (l0.length:Int) < (l0.length:Int):=by omega
    obtain ⟨xs,hxs⟩:∃ xs,xs=l0.map (stB l0 a1):=⟨_,rfl⟩;have hmix:mixL l0 a1 l0.length=xs:=by rw [hxs];simp [mixL]
    have hxl:xs.length=l0.length:=by rw [hxs,List.length_map]
    have hcmp:cmpOut l0 a1=xs.filter (fun b=>!decide (b.f5.length=0)):=by rw [hxs];rfl
    have hR:=Kd.S_R HS.out;rw [hmix] at hR;have hPR:∀ (W:World) (x:S34) (cs:Array Value),True→x∈xs→k34.K W x cs.toList→Calls Try.prog 53 (#[.agg cs] ++ #[]) W fun e w'=>e = .returned (.bool (decide (x.f5.length=0)))∧Below W.heap.size W w':=by
     rintro W x cs - hx hK;obtain ⟨A6,c6,hcs,b5,b6⟩:=k34_open hK;have hcs2:cs = #[.bool x.f0,.bool x.f1,.int .i64 x.f2,.int .i64 x.f3,.int .i64 x.f4,.slice A6 x.f5.length c6]:=by rw [← Array.toArray_toList (xs:=cs),hcs]
     subst hcs2;exact cl2_calls x.f0 x.f1 x.f2 x.f3 x.f4 A6 x.f5.length c6 W
    by_cases h0:l0.length=0
    ·
     have a9:xs = []:=List.eq_nil_of_length_eq_zero (by omega);rw [a9] at hPR hR hcmp;have HCM:=zzm (show cmpOut l0 a1 = [] from hcmp);have hC0:Kd.C k34 wr Av 0 []:=by
      obtain ⟨A9,c9,h9,b0,hC9⟩:=Kd.R_reads hR;injection h9 with e1 e2 e3;rw [e1];exact hC9
     have HD:=zzm (show Calls Try.prog 52 #[.slice Av l0.length cv,.func (.func 53) #[] #[]] wr fun e w'=>e = .returned (.slice Av l0.length cv)∧Below wr.heap.size wr w' by rw [h0];exact deleteB_empty 53 #[] (enters_of Try.func53 (by kernel_rfl) rfl) Av cv wr hC0 hPR);have HRF:=zzm hR;clear hPR hR hC0 hxl hmix hcmp hxs HS h0 a9;go_wp2_with (go_at_call 52;refine HD.out.mono ?_;rintro e w5 ⟨rfl,hb5⟩);go_ret2;refine ⟨_,rfl,?_,HB.out.trans (hb5.mono HB.out.size)⟩;rw [HCM.out];exact Kd.R_mono (Kd.R_lower (Kd.R_below HRF.out hb5) a7) (fun _ _=>trivial)
    ·
     obtain ⟨A9,c9,h9,b0,hC9⟩:=Kd.R_reads hR;injection h9 with e1 e2 e3;subst e1 e3;obtain ⟨ad,_,_,he,_⟩:=Ra hC9 0 (by omega) (by omega);subst he;obtain ⟨G,rfl⟩:=Kd.R_head hR;obtain ⟨cur,hbG,_⟩:=R_block hR;have hR2:Kd.R k34 34 wr N0 (fun k=>N0≤k) (.slice (some ⟨G,0,none⟩) xs.length cv) xs:=by rw [hxl];exact hR
     have HD:=delete34_calls 53 #[] (enters_of Try.func53 (by kernel_rfl) rfl) (fun x=>decide (x.f5.length=0)) (fun _=>True) (fun _ _ _ _=>trivial) G cv N0 (fun k=>N0≤k) xs wr (fun _ _ _ _=>trivial) hPR hR2 trivial;rw [hxl] at HD;obtain ⟨ys,hys⟩:∃ ys,ys=xs.filter (fun b=>!decide (b.f5.length=0)):=⟨_,rfl⟩;rw [← hys] at HD hcmp;have HDD:=zzm HD;have HCM:=zzm hcmp;clear hys;clear HD hPR hR hR2 hC9 hxl hmix hcmp hxs HS b0 e2;go_wp2_with (go_at_call 52;refine HDD.out.mono ?_;rintro e w5 ⟨rfl,hR5,hG5⟩);go_ret2;refine ⟨_,rfl,?_,HB.out.trans (hG5.2.1.mono (by omega))⟩;rw [HCM.out];exact Kd.R_mono (Kd.R_lower hR5 a7) (fun _ _=>trivial)
end
section
open Go.Shelf
attribute [local go_sem] Oper.semAt_some
def Qt.f (l0:List S34):Option Int:=if (pts l0).length≤1000000 then some ((pts l0).length:Int) else none
set_option maxHeartbeats 4000000 in
theorem Qt.calls (A0:Option Addr) (c0:Nat) (l0:List (S34)) (r:Int) (w:World) (a0:Kd.C k34 w A0 l0.length l0) (a1:l0.length≤c0) (h:Qt.f l0=some r) :
  Calls Try.prog 46 #[.slice A0 l0.length c0] w fun e w'=>e = .returned (.int .i64 r)∧Below w.heap.size w w':=by
 have hm0:l0.length≤9223372036854775807:=a0.2.1;obtain ⟨AB,CB,AK,CK,AV,CV,hP⟩:=places_of a0;have hlen:(pts l0).length≤1000000∧r=((pts l0).length:Int):=by
  unfold Qt.f at h;by_cases h5:(pts l0).length≤1000000
  ·
   rw [if_pos h5] at h;exact ⟨h5,(Option.some.inj h).symm⟩
  ·
   rw [if_neg h5] at h;cases h
 obtain ⟨hlen,hre⟩:=hlen;have HP:=zzm hP;have a2:=zzm a0;have a3:=zzm a1;have HL:=zzm hlen;have HE:=zzm hre;clear a0 a1 hP h hlen hre;refine callsIn_wide (n:=8).1 ?_;have hro:(Fence.wide).round=none:=rfl;refine callsIn_of_wp_marks Try.func46 rfl trivial ?_ hro;simp only [Try.ntmps46,List.size_toArray,List.length_cons,List.length_nil,Nat.reduceAdd,Nat.reduceSub,Array.replicate_succ,Array.replicate_zero,List.push_toArray,List.append_toArray,List.nil_append,List.cons_append];gi_wp2_with (refine ⟨trivial,?_⟩;gi_at_call 41;refine (recs_in Fence.wide 7 trivial hro A0 _ _ _).mono ?_;rintro e w3 ⟨rfl,rfl⟩;dsimp only);obtain ⟨W0,hW0⟩:∃ W0,W0=((w.alloc (.cells #[.int .i64 0] 3)).alloc (.cells #[.slice A0 l0.length c0] 23)):=⟨_,rfl⟩;obtain ⟨Bs,hBs⟩:∃ Bs,Bs=(w.alloc (.cells #[.int .i64 0] 3)).heap.size:=⟨_,rfl⟩;have hB0:Below w.heap.size w W0:=by rw [hW0];exact ((Below.refl _ w).alloc (Nat.le_refl _) _).alloc (by simp) _
 have hsz0:W0.heap.size=w.heap.size+2:=by rw [hW0];simp
 have hb1:Boxed W0 w.heap.size 3 (.int .i64 0):=by rw [hW0];exact (Boxed.new w 3 _).alloc _
 have hsb:Boxed W0 Bs 23 (.slice A0 l0.length c0):=by rw [hW0,hBs];exact Boxed.new _ _ _
 rw [← hW0,← hBs];clear hW0 hBs;refine wpIn_rangeFunc_ownH rfl (by omega) (gf:=70) (lb:=#[.pointer (some ⟨Bs,0,none⟩)]) rfl trivial (enters_of Try.func70 (by kernel_rfl) rfl)
  (recs_stops Fence.wide _ trivial rfl (by omega) Bs A0 c0 l0 w W0 HP.out hm0 hB0 hsb.cell) KpR.t (KpR.b hB0.size) (Below.refl _ _) (fun _=>rfl)
  (fun pre W=>Boxed W w.heap.size 3 (.int .i64 (pre.length:Int))∧Below w.heap.size w W)
  (fun _ _ _=>False)
  (fun s X Y row hs hg hr=>by
   obtain ⟨e1,e2⟩:=hs;have hc:∀ r,row=some r→∃ o:Obj,X.heap[r]? = some o∧o.isCells=false:=fun r e=>(hr r e).2;exact ⟨boxed_own _ _ (fun _:Unit=>_) () X Y row e1 hg hc,ownFrom_below (Nat.le_refl _) hB0.size () X Y row e2 hg hr⟩)
  (fun _ _ _ _ _ hs _ _=>hs)
  ⟨hb1,hB0⟩
  (fun x a' W=>a' = { tmps:=#[.slice A0 l0.length c0,undef,.int .i64 0,.pointer (some ⟨w.heap.size,0,none⟩),.slice A0 l0.length c0,.func (.func 70) #[] #[.pointer (some ⟨Bs,0,none⟩)],encB l0 AB CB x.1,encR l0 AK CK AV CV x.1 x.2,undef,undef,undef],defers:=[] })
  (fun x a' _ X Y row hs hg hr=>hs)
  ?assign ?body ?done ?stop
 case assign=>
  rintro l pre x W K ⟨e1,e2⟩ hK;gi_wp2;exact hK _ _ (KeepsFrom.refl _ _) ⟨Below.refl _ _,KeepT.refl _ _⟩ ⟨e1,e2⟩ (by simp)
 case body=>
  rintro l pre x a' W hl ⟨lr,hlr⟩ ⟨e1,e2⟩ rfl hlt;have m1:=e1.cell;have m2:=e1.frozen;have hpl:((pre ++ [x]).length:Int)=(pre.length:Int)+1:=by simp
  have hn:pre.length < 1000000:=by have:=HL.out;omega
  have a4:wrap64 ((pre.length:Int)+1)=(pre.length:Int)+1:=by unfold wrap64;omega
  have hg:=grownBy_setCell' W w.heap.size (.int .i64 ((pre.length:Int)+1));have hsW:=e2.size;gi_wp2;exact ⟨KeepsFrom.of_grownBy hg (fun j e=>by cases e;omega),⟨(Below.refl _ W).grown hg (by omega) (fun j e=>by cases e;omega),KeepT.of_grownBy hg (fun j e cs f h=>by cases e;rw [show W.heap[w.heap.size]? = _ from e1] at h;cases h)⟩,by rw [hpl];exact e1.set _,e2.grown hg (by omega) (fun j e=>by cases e;omega)⟩
 case done=>
  rintro D ys W hD rfl ⟨e1,e2⟩ hK;have ev:=e1.cell;gi_wp2;refine ⟨by simp,.inl ⟨_,_,rfl,run_takeDeferred hK,?_⟩⟩;have hB2:Below w.heap.size w (W.putObj D (.deferred none)):=e2.trans (belowK_b (w:=w) (Nat.le_refl _) W D _ _ (by omega) hK rfl rfl);exact ⟨_,results_tmp rfl _ _ _,by rw [HE.out];rfl,hB2⟩
 case stop=>
  rintro D c pre W hD hp h hK;exact h.elim
end
def Qx.f (k:Nat) (l0:List (S34)) (a1:Bool):Option (Int):=(Qu.f k l0 a1).bind fun bt368=>(if bt368.2=true then ((Qt.f l0).bind fun t372=>((Qt.f bt368.1).bind fun t373=>(some (wrap64 (t372 - t373))))) else (some (-1)))
set_option maxHeartbeats 8000000 in
theorem Qx.calls (k:Nat) (A0:Option Addr) (c0:Nat) (l0:List (S34)) (a1:Bool) (r:Int) (w:World) (b1:Kd.C k34 w A0 l0.length l0) (b2:l0.length≤c0) (h:Qx.f k l0 a1=some r) :
  Calls Try.prog 21 #[.slice A0 l0.length c0,.bool a1] w fun e w'=>e = .returned (.int .i64 r)∧Below w.heap.size w w':=by
 have a8:=zzm b1;have a9:=zzm b2;clear b1 b2;have HB:=zzm (Below.refl w.heap.size w);have H:((Qu.f k l0 a1).bind fun a7=>(if a7.2=true then ((Qt.f l0).bind fun a4=>((Qt.f a7.1).bind fun a5=>(some (wrap64 (a4 - a5))))) else (some (-1))))=some r:=h;clear h;replace H:=zzH H;obtain ⟨⟨a6,b0⟩,b3,H⟩:=H;replace H:(if b0=true then ((Qt.f l0).bind fun a4=>((Qt.f a6).bind fun a5=>(some (wrap64 (a4 - a5))))) else (some (-1)))=some r:=H;have A3:=zzm b3;clear b3;by_cases c4:b0=true
 ·
  subst c4;replace H:=zzIt H;obtain ⟨a4,A5,H⟩:=zzG H;obtain ⟨a5,A6,H⟩:=zzG H;obtain rfl:=Option.some.inj H;go_enter Try.func21,Try.ntmps21;go_wp2_with (first|((with_reducible refine gate_callee (f:=23) rfl ?_);refine goesL_ (some 10) rfl rfl Try.func23 (by kernel_rfl) rfl #[.slice A0 l0.length c0,.bool a1] rfl zzM2 ?_;(with_reducible refine (Qu.calls k _ _ l0 a1 a6 true _ ?side1 ?side2 A3.out).mono ?_);(case side1=>repeat (first|exact a8.out|(with_reducible refine Kd.C_alloc ?_ _)|(with_reducible refine Kd.C_drewN ?_ _)|(with_reducible refine Kd.C_drew ?_)));(case side2=>exact a9.out);rintro e w7 ⟨b4,rfl,ho0,hb⟩;refine ⟨_,rfl,?_⟩;have a2:=zzm (Kd.R_lower ho0 (zzo zzh1));have a3:=zzm (zzp zzh1 hb);clear HB;have a0:=a2;have HB:=a3;clear a2 a3;(try clear hb);(try clear hb2);(try clear hk);(try clear hi);(try clear ho0))|((with_reducible refine gate_callee (f:=46) rfl ?_);refine goesL_ (some 16) rfl rfl Try.func46 (by kernel_rfl) rfl #[.slice A0 l0.length c0] rfl zzM2 ?_;(with_reducible refine (Qt.calls _ _ l0 a4 _ ?side1 ?side2 A5.out).mono ?_);(case side1=>exact zzcb a8 HB);(case side2=>exact a9.out);rintro e w8 ⟨rfl,hb⟩;refine ⟨_,rfl,?_⟩;have a2:=zzm (Kd.R_below (by (with_reducible repeat (first|apply Kd.R_alloc|apply Kd.R_drewN|apply Kd.R_drew));exact a0.out) hb);have a3:=zzm (zzp zzh1 hb);clear a0 HB;have a0:=a2;have HB:=a3;clear a2 a3;(try clear hb);(try clear hb2);(try clear hk);(try clear hi);obtain ⟨b5,b6,eo9⟩:=Kd.R_slice a0.out;subst eo9)|((with_reducible refine gate_callee (f:=46) rfl ?_);refine goesL_ (some 18) rfl rfl Try.func46 (by kernel_rfl) rfl #[.slice b5 a6.length b6] rfl zzM2 ?_;(with_reducible refine (Qt.calls _ _ a6 a5 _ ?side1 ?side2 A6.out).mono ?_);(case side1=>repeat (first|exact (Kd.R_reads' a0.out).2.2|(with_reducible refine Kd.C_alloc ?_ _)|(with_reducible refine Kd.C_drewN ?_ _)|(with_reducible refine Kd.C_drew ?_)));(case side2=>exact (Kd.R_reads' a0.out).2.1);rintro e b7 ⟨rfl,hb⟩;refine ⟨_,rfl,?_⟩;have a2:=zzm (Kd.R_below (by (with_reducible repeat (first|apply Kd.R_alloc|apply Kd.R_drewN|apply Kd.R_drew));exact a0.out) hb);have a3:=zzm (zzp zzh1 hb);clear a0 HB;have a0:=a2;have HB:=a3;clear a2 a3;(try clear hb);(try clear hb2);(try clear hk);(try clear hi)));go_ret;exact ⟨zzR,zzh1⟩
 ·
  replace c4:=Bool.eq_false_iff.mpr c4;subst c4;replace H:=zzIf H;obtain rfl:=Option.some.inj H;go_enter Try.func21,Try.ntmps21;go_wp2_with (first|((with_reducible refine gate_callee (f:=23) rfl ?_);refine goesL_ (some 10) rfl rfl Try.func23 (by kernel_rfl) rfl #[.slice A0 l0.length c0,.bool a1] rfl zzM2 ?_;(with_reducible refine (Qu.calls k _ _ l0 a1 a6 false _ ?side1 ?side2 A3.out).mono ?_);(case side1=>repeat (first|exact a8.out|(with_reducible refine Kd.C_alloc ?_ _)|(with_reducible refine Kd.C_drewN ?_ _)|(with_reducible refine Kd.C_drew ?_)));(case side2=>exact a9.out);rintro e b8 ⟨b4,rfl,ho0,hb⟩;refine ⟨_,rfl,?_⟩;have a2:=zzm (Kd.R_lower ho0 (zzo zzh1));have a3:=zzm (zzp zzh1 hb);clear HB;have a0:=a2;have HB:=a3;clear a2 a3;(try clear hb);(try clear hb2);(try clear hk);(try clear hi);(try clear ho0)));go_ret;exact ⟨zzR,zzh1⟩
def Ru.f (a0_0:Bool) (a0_1:Bool) (a0_2:Int) (a0_3:Int) (a0_4:Int) (l0_5:List (S30)):Option (Int):=if 0≤(wrap64 ((l0_5.length:Int) - 1)) then (if (wrap64 ((l0_5.length:Int) - 1)) < (l0_5.length:Int) then (some ((Qb l0_5 (wrap64 ((l0_5.length:Int) - 1))).f0)) else (none)) else (none)
set_option maxHeartbeats 8000000 in
theorem Ru.calls (b2:Bool) (b3:Bool) (b4:Int) (b5:Int) (b6:Int) (b7:Option Addr) (b8:Nat) (a0:List (S30)) (r:Int) (w:World) (c1:Kd.C k30 w b7 a0.length a0) (c2:a0.length≤b8) (h:Ru.f b2 b3 b4 b5 b6 a0=some r) :
  Calls Try.prog 72 #[.agg #[.bool b2,.bool b3,.int .i64 b4,.int .i64 b5,.int .i64 b6,.slice b7 a0.length b8]] w fun e w'=>e = .returned (.int .i64 r)∧Below w.heap.size w w':=by
 have hu34:=Try.underlying34;have c7:=zzm c1;have g4:=zzm c2;clear c1 c2;have HB:=zzm (Below.refl w.heap.size w);have H:(if 0≤(wrap64 ((a0.length:Int) - 1)) then (if (wrap64 ((a0.length:Int) - 1)) < (a0.length:Int) then (some ((Qb a0 (wrap64 ((a0.length:Int) - 1))).f0)) else (none)) else (none))=some r:=h;clear h;obtain ⟨a1,hji2⟩:∃ j_:Int,(wrap64 ((a0.length:Int) - 1))=j_:=⟨_,rfl⟩;replace H:(if 0≤(a1) then (if (a1) < (a0.length:Int) then (some ((Qb a0 (a1)).f0)) else (none)) else (none))=some r:=by first|(rw [hji2] at H;exact H)|(simp only [hji2] at H ⊢;exact H)
 have hji2w:(IntKind.i64.wrap ((a0.length:Int) - 1))=a1:=(i64_w _).trans hji2;by_cases c3 : 0≤(a1)
 ·
  rw [if_pos c3] at H;have g8:decide (0≤(a1))=true:=decide_eq_true c3;clear c3;by_cases c4:(a1) < (a0.length:Int)
  ·
   rw [if_pos c4] at H;have g9:decide ((a1) < (a0.length:Int))=true:=decide_eq_true c4;clear c4;obtain rfl:=Option.some.inj H;go_enter Try.func72,Try.ntmps72;go_wp2_with (first|((with_reducible refine gate_dst (N:=1) rfl ?_);refine box_event ?hg (N:=1) ?hd (cs:=#[.bool b2,.bool b3,.int .i64 b4,.int .i64 b5,.int .i64 b6,.slice b7 a0.length b8]) (t:=34) ?hr ?_;(case hd=>rfl);(case hg=>rfl);(case hr=>first|(go_simp;done)|(go_simp;rfl));intro c5 hg w5 hbox hb;have c9:=zzm (zzp zzh1 hb);have d0:=zzm (hbox);have d1:=zzm ((by rw [hg];exact (zzo zzh1):w.heap.size≤c5));have d2:=zzm ((by rw [hg];exact (zzo zzh1):w.heap.size≤c5));clear HB;have HB:=c9;have c8:=d0;have g5:=d1;have g6:=d2;clear c9 d0 d1 d2 hb hbox hg;obtain ⟨d8,d9,e0,e1,e2,e3,e4,e5,e6,e7,e8,e9⟩:=zzc6 c8.out;have b9 : 0≤((a1):Int):=zzt;have c0:(a1) < (a0.length:Int):=zzt;obtain ⟨g7,g0,g1,g2,g3,d3,a2,a3,a4,a5,a6,a7,a8,a9,b0,b1⟩:=Rg c7.out (a1) b9 c0;cases d3;replace a2:=zzx HB.out a2;replace a3:=zzx HB.out a3;replace a4:=zzx HB.out a4;replace a5:=zzx HB.out a5;replace a6:=zzx HB.out a6;replace a7:=zzx HB.out a7;have d4:=zzm a9;have d5:=zzm a8;clear a9 a8;have d6:=zzm b1;have d7:=zzm b0;clear b1 b0;replace b9:=eq_true b9;replace c0:=eq_true c0));go_ret;exact ⟨by first|rfl|(simp [errW_none,errW_some] <;> rfl)|(simp only [← hji2];first|rfl|(simp [errW_none,errW_some] <;> rfl))|(simp [*,errW_none,errW_some] <;> rfl),zzh3⟩
  ·
   rw [if_neg c4] at H;exact absurd H (by simp)
 ·
  rw [if_neg c3] at H;exact absurd H (by simp)
def Qn.l0:Nat→List (S34)→Int→Option (Bool)
 | 0,_,_=>none
 | k+1,x0,x3=>if x3 < (x0.length:Int) then (if 0≤x3 then ((Qm.f k ((Qa x0 x3).f0) ((Qa x0 x3).f1) ((Qa x0 x3).f2) ((Qa x0 x3).f3) ((Qa x0 x3).f4) ((Qa x0 x3).f5)).bind fun t377=>(if t377=true then (if x3 > 0 then (if 0≤(wrap64 (x3 - 1)) then (if (wrap64 (x3 - 1)) < (x0.length:Int) then ((Ru.f ((Qa x0 (wrap64 (x3 - 1))).f0) ((Qa x0 (wrap64 (x3 - 1))).f1) ((Qa x0 (wrap64 (x3 - 1))).f2) ((Qa x0 (wrap64 (x3 - 1))).f3) ((Qa x0 (wrap64 (x3 - 1))).f4) ((Qa x0 (wrap64 (x3 - 1))).f5)).bind fun t379=>(if 0 < (((Qa x0 x3).f5).length:Int) then (if t379 ≥ ((Qb ((Qa x0 x3).f5) 0).f0) then (some false) else (Qn.l0 k x0 (wrap64 (x3+1)))) else (none))) else (none)) else (none)) else (Qn.l0 k x0 (wrap64 (x3+1)))) else (some false))) else (none)) else (some (decide ((x0.length:Int)≤8)))
def Qn.f (k:Nat) (l0:List (S34)):Option (Bool):=Qn.l0 k l0 0
def Qn.T4:Bool×List (List Nat×List Nat):=(true,[([],[]),([],[]),([0,1],[0,1]),([2],[2]),([3],[3]),([4],[4]),([5,4],[5]),([6],[6]),([7,6],[6,7]),([8,6,6],[6,8]),([9],[9]),([9],[9]),([11,9],[9,11]),([10,12,9],[9,10,12]),([13,9],[9,13]),([14,9,9],[9,14]),([9],[9]),([9],[9]),([16,17,9],[9,16,17]),([18,9],[9,18]),([19,9],[9,19]),([20,9],[9,20]),([21,9],[9,21]),([22,9],[9,22]),([15,23,9],[9,15,23]),([9,24,6],[6,9,24]),([6,25],[6,25])])
def Qn.B4:List Nat:=[0,0,3,7,15,31,63,127,255,511,1023,1023,3071,8191,16383,32767,1023,1023,197631,459775,984063,2032639,4129791,8324095,16777215,33554431,67108863]
theorem Qn.tab4:rtab .any (opsOf Try.f43 4)=Qn.T4:=by kernel_rfl
theorem Qn.bits4:waitsOk Qn.T4.2 Qn.B4=true:=by kernel_rfl
set_option maxHeartbeats 8000000 in
theorem Qn.calls (k:Nat) (A0:Option Addr) (c0:Nat) (l0:List (S34)) (r:Bool) (w:World) (o1:Kd.C k34 w A0 l0.length l0) (o2:l0.length≤c0) (h:Qn.f k l0=some r) :
  Calls Try.prog 43 #[.slice A0 l0.length c0] w fun e w'=>e = .returned (.bool r)∧Below w.heap.size w w':=by
 have hu34:=Try.underlying34;have m2:=zzm o1;have p2:=zzm o2;clear o1 o2;have HB:=zzm (Below.refl w.heap.size w);have H:(Qn.l0 k l0 0)=some r:=h;clear h;have H':=zzm H;clear H;go_enter Try.func43,Try.ntmps43;go_wp2;go_loopg [3] k (fun kq v3 w'=>∃ (a0:Int),v3 = .int .i64 a0∧Aside0 (Qn.l0 kq l0 a0=some r)∧Aside0 (kq≤k)∧Aside0 (Below w.heap.size w w'))
 case atStart=>exact ⟨(0),(by first|rfl|(simp;done)|(simp [*];done)),H',⟨Nat.le_refl _⟩,⟨zzh1⟩⟩
 case round=>
  clear H';obtain ⟨a0,rfl,HA,HK1,HB⟩:=hrel;cases gk with
  | zero=>exact absurd HA.out (by simp [Qn.l0])
  | succ k1=>
   have H:=HA.out;clear HA;simp only [Qn.l0] at H;by_cases c2:a0 < (l0.length:Int)
   ·
    rw [if_pos c2] at H;have o4:decide (a0 < (l0.length:Int))=true:=decide_eq_true c2;clear c2;by_cases c3 : 0≤a0
    ·
     rw [if_pos c3] at H;have o9:decide (0≤a0)=true:=decide_eq_true c3;clear c3;obtain ⟨o5,A4,H⟩:=zzG H;by_cases c5:o5=true
     ·
      subst c5;replace H:=zzIt H;by_cases c6:a0 > 0
      ·
       rw [if_pos c6] at H;have o6:decide (0 < a0)=true:=decide_eq_true c6;clear c6;obtain ⟨a3,hji7⟩:∃ j_:Int,(wrap64 (a0 - 1))=j_:=⟨_,rfl⟩;replace H:(if 0≤(a3) then (if (a3) < (l0.length:Int) then ((Ru.f ((Qa l0 (a3)).f0) ((Qa l0 (a3)).f1) ((Qa l0 (a3)).f2) ((Qa l0 (a3)).f3) ((Qa l0 (a3)).f4) ((Qa l0 (a3)).f5)).bind fun k9=>(if 0 < (((Qa l0 a0).f5).length:Int) then (if k9 ≥ ((Qb ((Qa l0 a0).f5) 0).f0) then (some false) else (Qn.l0 k1 l0 (wrap64 (a0+1)))) else (none))) else (none)) else (none))=some r:=by first|(rw [hji7] at H;exact H)|(simp only [hji7] at H ⊢;exact H)
       (try rw [hji7] at A4);have hji7w:(IntKind.i64.wrap (a0 - 1))=a3:=(i64_w _).trans hji7;by_cases c8 : 0≤(a3)
       ·
        rw [if_pos c8] at H;have p0:decide (0≤(a3))=true:=decide_eq_true c8;clear c8;by_cases c9:(a3) < (l0.length:Int)
        ·
         rw [if_pos c9] at H;have p1:decide ((a3) < (l0.length:Int))=true:=decide_eq_true c9;clear c9;obtain ⟨k9,o3,H⟩:=zzG H;by_cases n5 : 0 < (((Qa l0 a0).f5).length:Int)
         ·
          rw [if_pos n5] at H;have o7:decide (0 < (((Qa l0 a0).f5).length:Int))=true:=decide_eq_true n5;have o8:decide (0 < ((Qa l0 a0).f5).length)=true:=decide_eq_true (by omega);clear n5;by_cases m7:k9 ≥ ((Qb ((Qa l0 a0).f5) 0).f0)
          ·
           rw [if_pos m7] at H;have n9:decide (((Qb ((Qa l0 a0).f5) 0).f0)≤k9)=true:=decide_eq_true m7;clear m7;obtain rfl:=Option.some.inj H;try go_wp2
           have d8:=zzm (zzc HB.out);clear HB;have HB:=d8;clear d8;have g5 : 0≤(a0:Int):=zzt;have g6:a0 < (l0.length:Int):=zzt;obtain ⟨a1,g7,d7,l2,a5,a6,a7,a8,a9,b0,d9,e0⟩:=Ra m2.out a0 g5 g6;have b1:=b0;have b9:=a9;have c1:=a8;have c4:=a7;have c7:=a6;have d0:=a5;cases l2;replace a5:=zzx HB.out a5;replace a6:=zzx HB.out a6;replace a7:=zzx HB.out a7;replace a8:=zzx HB.out a8;replace a9:=zzx HB.out a9;replace b0:=zzx HB.out b0;have e1:=zzm e0;have g8:=zzm d9;clear e0 d9;replace g5:=eq_true g5;replace g6:=eq_true g6;have l3 : 0≤((a3):Int):=zzt;have l4:(a3) < (l0.length:Int):=zzt;obtain ⟨m8,k5,k6,n2,e3,e4,e5,e6,e7,e8,j3,j4⟩:=Ra m2.out (a3) l3 l4;have g9:=e8;have h0:=e7;have h1:=e6;have h2:=e5;have h3:=e4;have h4:=e3;obtain rfl:a1=m8:=(by injection n2);replace e3:=zzx HB.out e3;replace e4:=zzx HB.out e4;replace e5:=zzx HB.out e5;replace e6:=zzx HB.out e6;replace e7:=zzx HB.out e7;replace e8:=zzx HB.out e8;have j5:=zzm j4;have l9:=zzm j3;clear j4 j3;replace l3:=eq_true l3;replace l4:=eq_true l4;have l5 : 0≤(a0:Int):=zzt;have l6:a0 < (l0.length:Int):=zzt;obtain ⟨m9,k7,k8,n3,e9,g0,g1,g2,g3,g4,j6,j7⟩:=Ra m2.out a0 l5 l6;have e2:=g4;have h5:=g3;have h6:=g2;have h7:=g1;have h8:=g0;have h9:=e9;obtain rfl:a1=m9:=(by injection n3);replace e9:=zzx HB.out e9;replace g0:=zzx HB.out g0;replace g1:=zzx HB.out g1;replace g2:=zzx HB.out g2;replace g3:=zzx HB.out g3;replace g4:=zzx HB.out g4;have j8:=zzm j7;have n6:=zzm j6;clear j7 j6;replace l5:=eq_true l5;replace l6:=eq_true l6;have l7 : 0≤(0:Int):=(by omega);have l8 : 0 < (((Qa l0 a0).f5).length:Int):=zzt;have eA_:k7=g7:=by have e_:=Option.some.inj (b1.symm.trans e2);injection e_ with n0 _ n1;exact n0.symm
           have eC_:k8=d7:=by have e_:=Option.some.inj (b1.symm.trans e2);injection e_ with n0 _ n1;exact n1.symm
           subst k7;subst k8;obtain ⟨a4,m3,m4,m5,m6,n4,b3,b4,b5,b6,b7,b8,j9,k0,k2,k3⟩:=Rg j8.out 0 l7 l8;have d1:=b8
           (try rw [show ((0:Int)).toNat=0 from rfl] at d1)
           (try rw [show 0 * 6=0 from rfl] at d1)
           (try rw [Addr.add_zero'] at d1);have d2:=b7
           (try rw [show ((0:Int)).toNat=0 from rfl] at d2)
           (try rw [show 0 * 6=0 from rfl] at d2)
           (try rw [Addr.add_zero'] at d2);have d3:=b6
           (try rw [show ((0:Int)).toNat=0 from rfl] at d3)
           (try rw [show 0 * 6=0 from rfl] at d3)
           (try rw [Addr.add_zero'] at d3);have d4:=b5
           (try rw [show ((0:Int)).toNat=0 from rfl] at d4)
           (try rw [show 0 * 6=0 from rfl] at d4)
           (try rw [Addr.add_zero'] at d4);have d5:=b4
           (try rw [show ((0:Int)).toNat=0 from rfl] at d5)
           (try rw [show 0 * 6=0 from rfl] at d5)
           (try rw [Addr.add_zero'] at d5);have d6:=b3
           (try rw [show ((0:Int)).toNat=0 from rfl] at d6)
           (try rw [show 0 * 6=0 from rfl] at d6)
           (try rw [Addr.add_zero'] at d6);cases n4;have o0:(0 < ((Qa l0 a0).f5).length)=True:=eq_true (by omega)
           (try rw [show ((0:Int)).toNat=0 from rfl] at b3)
           (try rw [show 0 * 6=0 from rfl] at b3)
           (try rw [Addr.add_zero'] at b3)
           (try rw [show ((0:Int)).toNat=0 from rfl] at b4)
           (try rw [show 0 * 6=0 from rfl] at b4)
           (try rw [Addr.add_zero'] at b4)
           (try rw [show ((0:Int)).toNat=0 from rfl] at b5)
           (try rw [show 0 * 6=0 from rfl] at b5)
           (try rw [Addr.add_zero'] at b5)
           (try rw [show ((0:Int)).toNat=0 from rfl] at b6)
           (try rw [show 0 * 6=0 from rfl] at b6)
           (try rw [Addr.add_zero'] at b6)
           (try rw [show ((0:Int)).toNat=0 from rfl] at b7)
           (try rw [show 0 * 6=0 from rfl] at b7)
           (try rw [Addr.add_zero'] at b7)
           (try rw [show ((0:Int)).toNat=0 from rfl] at b8)
           (try rw [show 0 * 6=0 from rfl] at b8)
           (try rw [Addr.add_zero'] at b8);replace b3:=zzx HB.out b3;replace b4:=zzx HB.out b4;replace b5:=zzx HB.out b5;replace b6:=zzx HB.out b6;replace b7:=zzx HB.out b7;replace b8:=zzx HB.out b8;have m0:=zzm k0;have n7:=zzm j9;clear k0 j9;have m1:=zzm k3;have n8:=zzm k2;clear k3 k2;replace l7:=eq_true l7;replace l8:=eq_true l8;refine start_ (n:=27) (S:=fun w'=>w'.cell? (a1.add ((a0).toNat * 6))=some (.bool ((Qa l0 a0).f0))∧w'.cell? ⟨(a1.add ((a0).toNat * 6)).block,(a1.add ((a0).toNat * 6)).off+1,none⟩=some (.bool ((Qa l0 a0).f1))∧w'.cell? ⟨(a1.add ((a0).toNat * 6)).block,(a1.add ((a0).toNat * 6)).off+2,none⟩=some (.int .i64 ((Qa l0 a0).f2))∧w'.cell? ⟨(a1.add ((a0).toNat * 6)).block,(a1.add ((a0).toNat * 6)).off+3,none⟩=some (.int .i64 ((Qa l0 a0).f3))∧w'.cell? ⟨(a1.add ((a0).toNat * 6)).block,(a1.add ((a0).toNat * 6)).off+4,none⟩=some (.int .i64 ((Qa l0 a0).f4))∧w'.cell? ⟨(a1.add ((a0).toNat * 6)).block,(a1.add ((a0).toNat * 6)).off+5,none⟩=some (.slice (some a4) ((Qa l0 a0).f5).length d7)∧w'.cell? (a1.add (((a3)).toNat * 6))=some (.bool ((Qa l0 (a3)).f0))∧w'.cell? ⟨(a1.add (((a3)).toNat * 6)).block,(a1.add (((a3)).toNat * 6)).off+1,none⟩=some (.bool ((Qa l0 (a3)).f1))∧w'.cell? ⟨(a1.add (((a3)).toNat * 6)).block,(a1.add (((a3)).toNat * 6)).off+2,none⟩=some (.int .i64 ((Qa l0 (a3)).f2))∧w'.cell? ⟨(a1.add (((a3)).toNat * 6)).block,(a1.add (((a3)).toNat * 6)).off+3,none⟩=some (.int .i64 ((Qa l0 (a3)).f3))∧w'.cell? ⟨(a1.add (((a3)).toNat * 6)).block,(a1.add (((a3)).toNat * 6)).off+4,none⟩=some (.int .i64 ((Qa l0 (a3)).f4))∧w'.cell? ⟨(a1.add (((a3)).toNat * 6)).block,(a1.add (((a3)).toNat * 6)).off+5,none⟩=some (.slice k5 ((Qa l0 (a3)).f5).length k6)∧w'.cell? (a1.add ((a0).toNat * 6))=some (.bool ((Qa l0 a0).f0))∧w'.cell? ⟨(a1.add ((a0).toNat * 6)).block,(a1.add ((a0).toNat * 6)).off+1,none⟩=some (.bool ((Qa l0 a0).f1))∧w'.cell? ⟨(a1.add ((a0).toNat * 6)).block,(a1.add ((a0).toNat * 6)).off+2,none⟩=some (.int .i64 ((Qa l0 a0).f2))∧w'.cell? ⟨(a1.add ((a0).toNat * 6)).block,(a1.add ((a0).toNat * 6)).off+3,none⟩=some (.int .i64 ((Qa l0 a0).f3))∧w'.cell? ⟨(a1.add ((a0).toNat * 6)).block,(a1.add ((a0).toNat * 6)).off+4,none⟩=some (.int .i64 ((Qa l0 a0).f4))∧w'.cell? ⟨(a1.add ((a0).toNat * 6)).block,(a1.add ((a0).toNat * 6)).off+5,none⟩=some (.slice (some a4) ((Qa l0 a0).f5).length d7)∧w'.cell? a4=some (.int .i64 ((Qb ((Qa l0 a0).f5) 0).f0))∧w'.cell? ⟨a4.block,a4.off+1,none⟩=some (.int .i64 ((Qb ((Qa l0 a0).f5) 0).f1))∧w'.cell? ⟨a4.block,a4.off+2,none⟩=some (.bool ((Qb ((Qa l0 a0).f5) 0).f2))∧w'.cell? ⟨a4.block,a4.off+3,none⟩=some (.slice m3 ((Qb ((Qa l0 a0).f5) 0).f3).length m4)∧w'.cell? ⟨a4.block,a4.off+4,none⟩=some (.bool ((Qb ((Qa l0 a0).f5) 0).f4))∧w'.cell? ⟨a4.block,a4.off+5,none⟩=some (.slice m5 ((Qb ((Qa l0 a0).f5) 0).f5).length m6)) (ds:=[]) (zzB 27 0) (by kernel_rfl) rfl rfl ⟨(zzx HB.out d0),(zzx HB.out c7),(zzx HB.out c4),(zzx HB.out c1),(zzx HB.out b9),(zzx HB.out b1),(zzx HB.out h4),(zzx HB.out h3),(zzx HB.out h2),(zzx HB.out h1),(zzx HB.out h0),(zzx HB.out g9),(zzx HB.out h9),(zzx HB.out h8),(zzx HB.out h7),(zzx HB.out h6),(zzx HB.out h5),(zzx HB.out e2),(zzx HB.out d6),(zzx HB.out d5),(zzx HB.out d4),(zzx HB.out d3),(zzx HB.out d2),(zzx HB.out d1)⟩ (fun b2=>?_);refine with_tabW Qn.tab4 Qn.bits4 (fun a2 k4=>?_);generalize wr.drew=p3 at HB e1 j5 j8 m0 m1 a5 a6 a7 a8 a9 b0 e3 e4 e5 e6 e7 e8 e9 g0 g1 g2 g3 g4 b3 b4 b5 b6 b7 b8 b2 ⊢;refine zzP 0 10 27 1 a2 ?_
           refine zzP 1 11 27 3 a2 ?_
           refine zzP 2 12 27 7 a2 ?_
           refine zzT 3 13 27 15 a2 k4 b2 ?_
           refine one_ (i:=4) (N:=some 14) (zzB 27 31) rfl rfl (one_of a2.out (by kernel_rfl)) (by decide) (fun K hK=>?_);refine goes_ Try.func66 (by kernel_rfl) rfl #[.agg #[.bool ((Qa l0 a0).f0),.bool ((Qa l0 a0).f1),.int .i64 ((Qa l0 a0).f2),.int .i64 ((Qa l0 a0).f3),.int .i64 ((Qa l0 a0).f4),.slice (some a4) ((Qa l0 a0).f5).length d7]] (by rfl) rfl rfl zzM2 ?_;with_reducible refine (Qm.calls k1 ((Qa l0 a0).f0) ((Qa l0 a0).f1) ((Qa l0 a0).f2) ((Qa l0 a0).f3) ((Qa l0 a0).f4) _ _ ((Qa l0 a0).f5) true _ ?side1 ?side2 A4.out).mono ?_
           (case side1=>exact zzcb e1 HB)
           (case side2=>exact g8.out);rintro e p4 ⟨rfl,hb⟩;refine ⟨_,rfl,?_⟩;have d8:=zzm (zzp zzh1 hb);clear HB;have HB:=d8;clear d8
           (try clear hb)
           (try clear hb2)
           (try clear hk)
           (try clear hi);refine hK.out _ _ ⟨(zzx HB.out d0),(zzx HB.out c7),(zzx HB.out c4),(zzx HB.out c1),(zzx HB.out b9),(zzx HB.out b1),(zzx HB.out h4),(zzx HB.out h3),(zzx HB.out h2),(zzx HB.out h1),(zzx HB.out h0),(zzx HB.out g9),(zzx HB.out h9),(zzx HB.out h8),(zzx HB.out h7),(zzx HB.out h6),(zzx HB.out h5),(zzx HB.out e2),(zzx HB.out d6),(zzx HB.out d5),(zzx HB.out d4),(zzx HB.out d3),(zzx HB.out d2),(zzx HB.out d1)⟩ (fun b2=>?_);clear hK K;refine zzO 14 ?_
           refine zzP 5 15 27 63 a2 ?_
           refine zzP 6 16 27 127 a2 ?_
           refine zzP 7 17 27 255 a2 ?_
           refine zzP 8 18 27 511 a2 ?_
           refine zzP 9 19 27 1023 a2 ?_
           refine zzP 10 20 27 2047 a2 ?_
           refine zzP 11 21 27 4095 a2 ?_
           refine zzP 12 22 27 8191 a2 ?_
           refine zzP 13 23 27 16383 a2 ?_
           refine zzP 16 26 27 81919 a2 ?_
           refine zzP 17 27 27 212991 a2 ?_
           refine zzP 18 28 27 475135 a2 ?_
           refine zzP 19 29 27 999423 a2 ?_
           refine zzT 14 24 27 1015807 a2 k4 b2 ?_
           refine zzT 20 30 27 2064383 a2 k4 b2 ?_
           refine zzP 21 31 27 4161535 a2 ?_
           refine zzP 22 32 27 8355839 a2 ?_
           refine zzT 23 33 27 16744447 a2 k4 b2 ?_
           refine one_ (i:=15) (N:=some 25) (zzB 27 16777215) rfl rfl (one_of a2.out (by kernel_rfl)) (by decide) (fun K hK=>?_);refine goes_ Try.func72 (by kernel_rfl) rfl #[.agg #[.bool ((Qa l0 (a3)).f0),.bool ((Qa l0 (a3)).f1),.int .i64 ((Qa l0 (a3)).f2),.int .i64 ((Qa l0 (a3)).f3),.int .i64 ((Qa l0 (a3)).f4),.slice k5 ((Qa l0 (a3)).f5).length k6]] (by rfl) rfl rfl (by (try simp only [map_toArray,map_cons,map_nil]);first|done|(simp only [hji7];rfl)|rfl|(simp only [length_drop,length_take];rfl)) ?_;with_reducible refine (Ru.calls ((Qa l0 (a3)).f0) ((Qa l0 (a3)).f1) ((Qa l0 (a3)).f2) ((Qa l0 (a3)).f3) ((Qa l0 (a3)).f4) _ _ ((Qa l0 (a3)).f5) k9 _ ?side1 ?side2 o3.out).mono ?_
           (case side1=>exact zzcb j5 HB)
           (case side2=>exact l9.out);rintro e p5 ⟨rfl,hb⟩;refine ⟨_,rfl,?_⟩;have d8:=zzm (zzp zzh1 hb);clear HB;have HB:=d8;clear d8
           (try clear hb)
           (try clear hb2)
           (try clear hk)
           (try clear hi);refine hK.out _ _ ⟨(zzx HB.out d0),(zzx HB.out c7),(zzx HB.out c4),(zzx HB.out c1),(zzx HB.out b9),(zzx HB.out b1),(zzx HB.out h4),(zzx HB.out h3),(zzx HB.out h2),(zzx HB.out h1),(zzx HB.out h0),(zzx HB.out g9),(zzx HB.out h9),(zzx HB.out h8),(zzx HB.out h7),(zzx HB.out h6),(zzx HB.out h5),(zzx HB.out e2),(zzx HB.out d6),(zzx HB.out d5),(zzx HB.out d4),(zzx HB.out d3),(zzx HB.out d2),(zzx HB.out d1)⟩ (fun b2=>?_);clear hK K;refine zzO 25 ?_
           refine zzP 24 34 27 33554431 a2 ?_
           refine zzP 25 35 27 67108863 a2 ?_
           refine zzP 26 36 27 134217727 a2 ?_
           refine done_ (done_of a2.out (by kernel_rfl)) ?_;try go_wp2
           go_ret;exact ⟨by first|rfl|(simp [errW_none,errW_some] <;> rfl)|(simp only [← hji7];first|rfl|(simp [errW_none,errW_some] <;> rfl))|(simp [*,errW_none,errW_some] <;> rfl),zzh1⟩
          ·
           rw [if_neg m7] at H;have n9:decide (((Qb ((Qa l0 a0).f5) 0).f0)≤k9)=false:=decide_eq_false m7;clear m7;have H':=zzm H;clear H;try go_wp2
           have d8:=zzm (zzc HB.out);clear HB;have HB:=d8;clear d8;have g5 : 0≤(a0:Int):=zzt;have g6:a0 < (l0.length:Int):=zzt;obtain ⟨a1,g7,d7,l2,a5,a6,a7,a8,a9,b0,d9,e0⟩:=Ra m2.out a0 g5 g6;have b1:=b0;have b9:=a9;have c1:=a8;have c4:=a7;have c7:=a6;have d0:=a5;cases l2;replace a5:=zzx HB.out a5;replace a6:=zzx HB.out a6;replace a7:=zzx HB.out a7;replace a8:=zzx HB.out a8;replace a9:=zzx HB.out a9;replace b0:=zzx HB.out b0;have e1:=zzm e0;have g8:=zzm d9;clear e0 d9;replace g5:=eq_true g5;replace g6:=eq_true g6;have l3 : 0≤((a3):Int):=zzt;have l4:(a3) < (l0.length:Int):=zzt;obtain ⟨m8,k5,k6,n2,e3,e4,e5,e6,e7,e8,j3,j4⟩:=Ra m2.out (a3) l3 l4;have g9:=e8;have h0:=e7;have h1:=e6;have h2:=e5;have h3:=e4;have h4:=e3;obtain rfl:a1=m8:=(by injection n2);replace e3:=zzx HB.out e3;replace e4:=zzx HB.out e4;replace e5:=zzx HB.out e5;replace e6:=zzx HB.out e6;replace e7:=zzx HB.out e7;replace e8:=zzx HB.out e8;have j5:=zzm j4;have l9:=zzm j3;clear j4 j3;replace l3:=eq_true l3;replace l4:=eq_true l4;have l5 : 0≤(a0:Int):=zzt;have l6:a0 < (l0.length:Int):=zzt;obtain ⟨m9,k7,k8,n3,e9,g0,g1,g2,g3,g4,j6,j7⟩:=Ra m2.out a0 l5 l6;have e2:=g4;have h5:=g3;have h6:=g2;have h7:=g1;have h8:=g0;have h9:=e9;obtain rfl:a1=m9:=(by injection n3);replace e9:=zzx HB.out e9;replace g0:=zzx HB.out g0;replace g1:=zzx HB.out g1;replace g2:=zzx HB.out g2;replace g3:=zzx HB.out g3;replace g4:=zzx HB.out g4;have j8:=zzm j7;have n6:=zzm j6;clear j7 j6;replace l5:=eq_true l5;replace l6:=eq_true l6;have l7 : 0≤(0:Int):=(by omega);have l8 : 0 < (((Qa l0 a0).f5).length:Int):=zzt;have eA_:k7=g7:=by have e_:=Option.some.inj (b1.symm.trans e2);injection e_ with n0 _ n1;exact n0.symm
           have eC_:k8=d7:=by have e_:=Option.some.inj (b1.symm.trans e2);injection e_ with n0 _ n1;exact n1.symm
           subst k7;subst k8;obtain ⟨a4,m3,m4,m5,m6,n4,b3,b4,b5,b6,b7,b8,j9,k0,k2,k3⟩:=Rg j8.out 0 l7 l8;have d1:=b8
           (try rw [show ((0:Int)).toNat=0 from rfl] at d1)
           (try rw [show 0 * 6=0 from rfl] at d1)
           (try rw [Addr.add_zero'] at d1);have d2:=b7
           (try rw [show ((0:Int)).toNat=0 from rfl] at d2)
           (try rw [show 0 * 6=0 from rfl] at d2)
           (try rw [Addr.add_zero'] at d2);have d3:=b6
           (try rw [show ((0:Int)).toNat=0 from rfl] at d3)
           (try rw [show 0 * 6=0 from rfl] at d3)
           (try rw [Addr.add_zero'] at d3);have d4:=b5
           (try rw [show ((0:Int)).toNat=0 from rfl] at d4)
           (try rw [show 0 * 6=0 from rfl] at d4)
           (try rw [Addr.add_zero'] at d4);have d5:=b4
           (try rw [show ((0:Int)).toNat=0 from rfl] at d5)
           (try rw [show 0 * 6=0 from rfl] at d5)
           (try rw [Addr.add_zero'] at d5);have d6:=b3
           (try rw [show ((0:Int)).toNat=0 from rfl] at d6)
           (try rw [show 0 * 6=0 from rfl] at d6)
           (try rw [Addr.add_zero'] at d6);cases n4;have o0:(0 < ((Qa l0 a0).f5).length)=True:=eq_true (by omega)
           (try rw [show ((0:Int)).toNat=0 from rfl] at b3)
           (try rw [show 0 * 6=0 from rfl] at b3)
           (try rw [Addr.add_zero'] at b3)
           (try rw [show ((0:Int)).toNat=0 from rfl] at b4)
           (try rw [show 0 * 6=0 from rfl] at b4)
           (try rw [Addr.add_zero'] at b4)
           (try rw [show ((0:Int)).toNat=0 from rfl] at b5)
           (try rw [show 0 * 6=0 from rfl] at b5)
           (try rw [Addr.add_zero'] at b5)
           (try rw [show ((0:Int)).toNat=0 from rfl] at b6)
           (try rw [show 0 * 6=0 from rfl] at b6)
           (try rw [Addr.add_zero'] at b6)
           (try rw [show ((0:Int)).toNat=0 from rfl] at b7)
           (try rw [show 0 * 6=0 from rfl] at b7)
           (try rw [Addr.add_zero'] at b7)
           (try rw [show ((0:Int)).toNat=0 from rfl] at b8)
           (try rw [show 0 * 6=0 from rfl] at b8)
           (try rw [Addr.add_zero'] at b8);replace b3:=zzx HB.out b3;replace b4:=zzx HB.out b4;replace b5:=zzx HB.out b5;replace b6:=zzx HB.out b6;replace b7:=zzx HB.out b7;replace b8:=zzx HB.out b8;have m0:=zzm k0;have n7:=zzm j9;clear k0 j9;have m1:=zzm k3;have n8:=zzm k2;clear k3 k2;replace l7:=eq_true l7;replace l8:=eq_true l8;refine start_ (n:=27) (S:=fun w'=>w'.cell? (a1.add ((a0).toNat * 6))=some (.bool ((Qa l0 a0).f0))∧w'.cell? ⟨(a1.add ((a0).toNat * 6)).block,(a1.add ((a0).toNat * 6)).off+1,none⟩=some (.bool ((Qa l0 a0).f1))∧w'.cell? ⟨(a1.add ((a0).toNat * 6)).block,(a1.add ((a0).toNat * 6)).off+2,none⟩=some (.int .i64 ((Qa l0 a0).f2))∧w'.cell? ⟨(a1.add ((a0).toNat * 6)).block,(a1.add ((a0).toNat * 6)).off+3,none⟩=some (.int .i64 ((Qa l0 a0).f3))∧w'.cell? ⟨(a1.add ((a0).toNat * 6)).block,(a1.add ((a0).toNat * 6)).off+4,none⟩=some (.int .i64 ((Qa l0 a0).f4))∧w'.cell? ⟨(a1.add ((a0).toNat * 6)).block,(a1.add ((a0).toNat * 6)).off+5,none⟩=some (.slice (some a4) ((Qa l0 a0).f5).length d7)∧w'.cell? (a1.add (((a3)).toNat * 6))=some (.bool ((Qa l0 (a3)).f0))∧w'.cell? ⟨(a1.add (((a3)).toNat * 6)).block,(a1.add (((a3)).toNat * 6)).off+1,none⟩=some (.bool ((Qa l0 (a3)).f1))∧w'.cell? ⟨(a1.add (((a3)).toNat * 6)).block,(a1.add (((a3)).toNat * 6)).off+2,none⟩=some (.int .i64 ((Qa l0 (a3)).f2))∧w'.cell? ⟨(a1.add (((a3)).toNat * 6)).block,(a1.add (((a3)).toNat * 6)).off+3,none⟩=some (.int .i64 ((Qa l0 (a3)).f3))∧w'.cell? ⟨(a1.add (((a3)).toNat * 6)).block,(a1.add (((a3)).toNat * 6)).off+4,none⟩=some (.int .i64 ((Qa l0 (a3)).f4))∧w'.cell? ⟨(a1.add (((a3)).toNat * 6)).block,(a1.add (((a3)).toNat * 6)).off+5,none⟩=some (.slice k5 ((Qa l0 (a3)).f5).length k6)∧w'.cell? (a1.add ((a0).toNat * 6))=some (.bool ((Qa l0 a0).f0))∧w'.cell? ⟨(a1.add ((a0).toNat * 6)).block,(a1.add ((a0).toNat * 6)).off+1,none⟩=some (.bool ((Qa l0 a0).f1))∧w'.cell? ⟨(a1.add ((a0).toNat * 6)).block,(a1.add ((a0).toNat * 6)).off+2,none⟩=some (.int .i64 ((Qa l0 a0).f2))∧w'.cell? ⟨(a1.add ((a0).toNat * 6)).block,(a1.add ((a0).toNat * 6)).off+3,none⟩=some (.int .i64 ((Qa l0 a0).f3))∧w'.cell? ⟨(a1.add ((a0).toNat * 6)).block,(a1.add ((a0).toNat * 6)).off+4,none⟩=some (.int .i64 ((Qa l0 a0).f4))∧w'.cell? ⟨(a1.add ((a0).toNat * 6)).block,(a1.add ((a0).toNat * 6)).off+5,none⟩=some (.slice (some a4) ((Qa l0 a0).f5).length d7)∧w'.cell? a4=some (.int .i64 ((Qb ((Qa l0 a0).f5) 0).f0))∧w'.cell? ⟨a4.block,a4.off+1,none⟩=some (.int .i64 ((Qb ((Qa l0 a0).f5) 0).f1))∧w'.cell? ⟨a4.block,a4.off+2,none⟩=some (.bool ((Qb ((Qa l0 a0).f5) 0).f2))∧w'.cell? ⟨a4.block,a4.off+3,none⟩=some (.slice m3 ((Qb ((Qa l0 a0).f5) 0).f3).length m4)∧w'.cell? ⟨a4.block,a4.off+4,none⟩=some (.bool ((Qb ((Qa l0 a0).f5) 0).f4))∧w'.cell? ⟨a4.block,a4.off+5,none⟩=some (.slice m5 ((Qb ((Qa l0 a0).f5) 0).f5).length m6)) (ds:=[]) (zzB 27 0) (by kernel_rfl) rfl rfl ⟨(zzx HB.out d0),(zzx HB.out c7),(zzx HB.out c4),(zzx HB.out c1),(zzx HB.out b9),(zzx HB.out b1),(zzx HB.out h4),(zzx HB.out h3),(zzx HB.out h2),(zzx HB.out h1),(zzx HB.out h0),(zzx HB.out g9),(zzx HB.out h9),(zzx HB.out h8),(zzx HB.out h7),(zzx HB.out h6),(zzx HB.out h5),(zzx HB.out e2),(zzx HB.out d6),(zzx HB.out d5),(zzx HB.out d4),(zzx HB.out d3),(zzx HB.out d2),(zzx HB.out d1)⟩ (fun b2=>?_);refine with_tabW Qn.tab4 Qn.bits4 (fun a2 k4=>?_);generalize wr.drew=p6 at HB e1 j5 j8 m0 m1 a5 a6 a7 a8 a9 b0 e3 e4 e5 e6 e7 e8 e9 g0 g1 g2 g3 g4 b3 b4 b5 b6 b7 b8 b2 ⊢;refine zzP 0 10 27 1 a2 ?_
           refine zzP 1 11 27 3 a2 ?_
           refine zzP 2 12 27 7 a2 ?_
           refine zzT 3 13 27 15 a2 k4 b2 ?_
           refine one_ (i:=4) (N:=some 14) (zzB 27 31) rfl rfl (one_of a2.out (by kernel_rfl)) (by decide) (fun K hK=>?_);refine goes_ Try.func66 (by kernel_rfl) rfl #[.agg #[.bool ((Qa l0 a0).f0),.bool ((Qa l0 a0).f1),.int .i64 ((Qa l0 a0).f2),.int .i64 ((Qa l0 a0).f3),.int .i64 ((Qa l0 a0).f4),.slice (some a4) ((Qa l0 a0).f5).length d7]] (by rfl) rfl rfl zzM2 ?_;with_reducible refine (Qm.calls k1 ((Qa l0 a0).f0) ((Qa l0 a0).f1) ((Qa l0 a0).f2) ((Qa l0 a0).f3) ((Qa l0 a0).f4) _ _ ((Qa l0 a0).f5) true _ ?side1 ?side2 A4.out).mono ?_
           (case side1=>exact zzcb e1 HB)
           (case side2=>exact g8.out);rintro e p7 ⟨rfl,hb⟩;refine ⟨_,rfl,?_⟩;have d8:=zzm (zzp zzh1 hb);clear HB;have HB:=d8;clear d8
           (try clear hb)
           (try clear hb2)
           (try clear hk)
           (try clear hi);refine hK.out _ _ ⟨(zzx HB.out d0),(zzx HB.out c7),(zzx HB.out c4),(zzx HB.out c1),(zzx HB.out b9),(zzx HB.out b1),(zzx HB.out h4),(zzx HB.out h3),(zzx HB.out h2),(zzx HB.out h1),(zzx HB.out h0),(zzx HB.out g9),(zzx HB.out h9),(zzx HB.out h8),(zzx HB.out h7),(zzx HB.out h6),(zzx HB.out h5),(zzx HB.out e2),(zzx HB.out d6),(zzx HB.out d5),(zzx HB.out d4),(zzx HB.out d3),(zzx HB.out d2),(zzx HB.out d1)⟩ (fun b2=>?_);clear hK K;refine zzO 14 ?_
           refine zzP 5 15 27 63 a2 ?_
           refine zzP 6 16 27 127 a2 ?_
           refine zzP 7 17 27 255 a2 ?_
           refine zzP 8 18 27 511 a2 ?_
           refine zzP 9 19 27 1023 a2 ?_
           refine zzP 10 20 27 2047 a2 ?_
           refine zzP 11 21 27 4095 a2 ?_
           refine zzP 12 22 27 8191 a2 ?_
           refine zzP 13 23 27 16383 a2 ?_
           refine zzP 16 26 27 81919 a2 ?_
           refine zzP 17 27 27 212991 a2 ?_
           refine zzP 18 28 27 475135 a2 ?_
           refine zzP 19 29 27 999423 a2 ?_
           refine zzT 14 24 27 1015807 a2 k4 b2 ?_
           refine zzT 20 30 27 2064383 a2 k4 b2 ?_
           refine zzP 21 31 27 4161535 a2 ?_
           refine zzP 22 32 27 8355839 a2 ?_
           refine zzT 23 33 27 16744447 a2 k4 b2 ?_
           refine one_ (i:=15) (N:=some 25) (zzB 27 16777215) rfl rfl (one_of a2.out (by kernel_rfl)) (by decide) (fun K hK=>?_);refine goes_ Try.func72 (by kernel_rfl) rfl #[.agg #[.bool ((Qa l0 (a3)).f0),.bool ((Qa l0 (a3)).f1),.int .i64 ((Qa l0 (a3)).f2),.int .i64 ((Qa l0 (a3)).f3),.int .i64 ((Qa l0 (a3)).f4),.slice k5 ((Qa l0 (a3)).f5).length k6]] (by rfl) rfl rfl (by (try simp only [map_toArray,map_cons,map_nil]);first|done|(simp only [hji7];rfl)|rfl|(simp only [length_drop,length_take];rfl)) ?_;with_reducible refine (Ru.calls ((Qa l0 (a3)).f0) ((Qa l0 (a3)).f1) ((Qa l0 (a3)).f2) ((Qa l0 (a3)).f3) ((Qa l0 (a3)).f4) _ _ ((Qa l0 (a3)).f5) k9 _ ?side1 ?side2 o3.out).mono ?_
           (case side1=>exact zzcb j5 HB)
           (case side2=>exact l9.out);rintro e p8 ⟨rfl,hb⟩;refine ⟨_,rfl,?_⟩;have d8:=zzm (zzp zzh1 hb);clear HB;have HB:=d8;clear d8
           (try clear hb)
           (try clear hb2)
           (try clear hk)
           (try clear hi);refine hK.out _ _ ⟨(zzx HB.out d0),(zzx HB.out c7),(zzx HB.out c4),(zzx HB.out c1),(zzx HB.out b9),(zzx HB.out b1),(zzx HB.out h4),(zzx HB.out h3),(zzx HB.out h2),(zzx HB.out h1),(zzx HB.out h0),(zzx HB.out g9),(zzx HB.out h9),(zzx HB.out h8),(zzx HB.out h7),(zzx HB.out h6),(zzx HB.out h5),(zzx HB.out e2),(zzx HB.out d6),(zzx HB.out d5),(zzx HB.out d4),(zzx HB.out d3),(zzx HB.out d2),(zzx HB.out d1)⟩ (fun b2=>?_);clear hK K;refine zzO 25 ?_
           refine zzP 24 34 27 33554431 a2 ?_
           refine zzP 25 35 27 67108863 a2 ?_
           refine zzP 26 36 27 134217727 a2 ?_
           refine done_ (done_of a2.out (by kernel_rfl)) ?_;try go_wp2
           go_roundg k1
           case measure=>have:=HK1.out;omega
           case rel=>exact ⟨(wrap64 (a0+1)),(by first|rfl|(simp;done)|(simp [*];done)),H',⟨by have:=HK1.out;omega⟩,⟨zzh1⟩⟩
         ·
          rw [if_neg n5] at H;exact absurd H (by simp)
        ·
         rw [if_neg c9] at H;exact absurd H (by simp)
       ·
        rw [if_neg c8] at H;exact absurd H (by simp)
      ·
       rw [if_neg c6] at H;have o6:decide (0 < a0)=false:=decide_eq_false c6;clear c6;have H':=zzm H;clear H;try go_wp2
       have d8:=zzm (zzc HB.out);clear HB;have HB:=d8;clear d8;have g5 : 0≤(a0:Int):=zzt;have g6:a0 < (l0.length:Int):=zzt;obtain ⟨a1,g7,d7,l2,a5,a6,a7,a8,a9,b0,d9,e0⟩:=Ra m2.out a0 g5 g6;have b1:=b0;have b9:=a9;have c1:=a8;have c4:=a7;have c7:=a6;have d0:=a5;cases l2;replace a5:=zzx HB.out a5;replace a6:=zzx HB.out a6;replace a7:=zzx HB.out a7;replace a8:=zzx HB.out a8;replace a9:=zzx HB.out a9;replace b0:=zzx HB.out b0;have e1:=zzm e0;have g8:=zzm d9;clear e0 d9;replace g5:=eq_true g5;replace g6:=eq_true g6;refine start_ (n:=27) (S:=fun w'=>w'.cell? (a1.add ((a0).toNat * 6))=some (.bool ((Qa l0 a0).f0))∧w'.cell? ⟨(a1.add ((a0).toNat * 6)).block,(a1.add ((a0).toNat * 6)).off+1,none⟩=some (.bool ((Qa l0 a0).f1))∧w'.cell? ⟨(a1.add ((a0).toNat * 6)).block,(a1.add ((a0).toNat * 6)).off+2,none⟩=some (.int .i64 ((Qa l0 a0).f2))∧w'.cell? ⟨(a1.add ((a0).toNat * 6)).block,(a1.add ((a0).toNat * 6)).off+3,none⟩=some (.int .i64 ((Qa l0 a0).f3))∧w'.cell? ⟨(a1.add ((a0).toNat * 6)).block,(a1.add ((a0).toNat * 6)).off+4,none⟩=some (.int .i64 ((Qa l0 a0).f4))∧w'.cell? ⟨(a1.add ((a0).toNat * 6)).block,(a1.add ((a0).toNat * 6)).off+5,none⟩=some (.slice g7 ((Qa l0 a0).f5).length d7)) (ds:=[]) (zzB 27 0) (by kernel_rfl) rfl rfl ⟨(zzx HB.out d0),(zzx HB.out c7),(zzx HB.out c4),(zzx HB.out c1),(zzx HB.out b9),(zzx HB.out b1)⟩ (fun b2=>?_);refine with_tabW Qn.tab4 Qn.bits4 (fun a2 k4=>?_);generalize wr.drew=p9 at HB e1 a5 a6 a7 a8 a9 b0 b2 ⊢;refine zzP 0 10 27 1 a2 ?_
       refine zzP 1 11 27 3 a2 ?_
       refine zzP 2 12 27 7 a2 ?_
       refine zzT 3 13 27 15 a2 k4 b2 ?_
       refine one_ (i:=4) (N:=some 14) (zzB 27 31) rfl rfl (one_of a2.out (by kernel_rfl)) (by decide) (fun K hK=>?_);refine goes_ Try.func66 (by kernel_rfl) rfl #[.agg #[.bool ((Qa l0 a0).f0),.bool ((Qa l0 a0).f1),.int .i64 ((Qa l0 a0).f2),.int .i64 ((Qa l0 a0).f3),.int .i64 ((Qa l0 a0).f4),.slice g7 ((Qa l0 a0).f5).length d7]] (by rfl) rfl rfl zzM2 ?_;with_reducible refine (Qm.calls k1 ((Qa l0 a0).f0) ((Qa l0 a0).f1) ((Qa l0 a0).f2) ((Qa l0 a0).f3) ((Qa l0 a0).f4) _ _ ((Qa l0 a0).f5) true _ ?side1 ?side2 A4.out).mono ?_
       (case side1=>exact zzcb e1 HB)
       (case side2=>exact g8.out);rintro e q0 ⟨rfl,hb⟩;refine ⟨_,rfl,?_⟩;have d8:=zzm (zzp zzh1 hb);clear HB;have HB:=d8;clear d8
       (try clear hb)
       (try clear hb2)
       (try clear hk)
       (try clear hi);refine hK.out _ _ ⟨(zzx HB.out d0),(zzx HB.out c7),(zzx HB.out c4),(zzx HB.out c1),(zzx HB.out b9),(zzx HB.out b1)⟩ (fun b2=>?_);clear hK K;refine zzO 14 ?_
       refine zzP 5 15 27 63 a2 ?_
       refine zzP 6 16 27 127 a2 ?_
       refine zzP 7 17 27 255 a2 ?_
       refine zzP 8 18 27 511 a2 ?_
       refine zzP 9 19 27 1023 a2 ?_
       refine zzU 10 20 27 2047 a2 ?_
       refine zzU 11 21 27 4095 a2 ?_
       refine zzU 12 22 27 8191 a2 ?_
       refine zzU 13 23 27 16383 a2 ?_
       refine zzU 14 24 27 32767 a2 ?_
       refine zzU 15 25 27 65535 a2 ?_
       refine zzU 16 26 27 131071 a2 ?_
       refine zzU 17 27 27 262143 a2 ?_
       refine zzU 18 28 27 524287 a2 ?_
       refine zzU 19 29 27 1048575 a2 ?_
       refine zzU 20 30 27 2097151 a2 ?_
       refine zzU 21 31 27 4194303 a2 ?_
       refine zzU 22 32 27 8388607 a2 ?_
       refine zzU 23 33 27 16777215 a2 ?_
       refine zzU 24 34 27 33554431 a2 ?_
       refine zzP 25 35 27 67108863 a2 ?_
       refine zzP 26 36 27 134217727 a2 ?_
       refine done_ (done_of a2.out (by kernel_rfl)) ?_;try go_wp2
       go_roundg k1
       case measure=>have:=HK1.out;omega
       case rel=>exact ⟨(wrap64 (a0+1)),(by first|rfl|(simp;done)|(simp [*];done)),H',⟨by have:=HK1.out;omega⟩,⟨zzh1⟩⟩
     ·
      replace c5:=Bool.eq_false_iff.mpr c5;subst c5;replace H:=zzIf H;obtain rfl:=Option.some.inj H;try go_wp2
      have d8:=zzm (zzc HB.out);clear HB;have HB:=d8;clear d8;have g5 : 0≤(a0:Int):=zzt;have g6:a0 < (l0.length:Int):=zzt;obtain ⟨a1,g7,d7,l2,a5,a6,a7,a8,a9,b0,d9,e0⟩:=Ra m2.out a0 g5 g6;have b1:=b0;have b9:=a9;have c1:=a8;have c4:=a7;have c7:=a6;have d0:=a5;cases l2;replace a5:=zzx HB.out a5;replace a6:=zzx HB.out a6;replace a7:=zzx HB.out a7;replace a8:=zzx HB.out a8;replace a9:=zzx HB.out a9;replace b0:=zzx HB.out b0;have e1:=zzm e0;have g8:=zzm d9;clear e0 d9;replace g5:=eq_true g5;replace g6:=eq_true g6;refine start_ (n:=27) (S:=fun w'=>w'.cell? (a1.add ((a0).toNat * 6))=some (.bool ((Qa l0 a0).f0))∧w'.cell? ⟨(a1.add ((a0).toNat * 6)).block,(a1.add ((a0).toNat * 6)).off+1,none⟩=some (.bool ((Qa l0 a0).f1))∧w'.cell? ⟨(a1.add ((a0).toNat * 6)).block,(a1.add ((a0).toNat * 6)).off+2,none⟩=some (.int .i64 ((Qa l0 a0).f2))∧w'.cell? ⟨(a1.add ((a0).toNat * 6)).block,(a1.add ((a0).toNat * 6)).off+3,none⟩=some (.int .i64 ((Qa l0 a0).f3))∧w'.cell? ⟨(a1.add ((a0).toNat * 6)).block,(a1.add ((a0).toNat * 6)).off+4,none⟩=some (.int .i64 ((Qa l0 a0).f4))∧w'.cell? ⟨(a1.add ((a0).toNat * 6)).block,(a1.add ((a0).toNat * 6)).off+5,none⟩=some (.slice g7 ((Qa l0 a0).f5).length d7)) (ds:=[]) (zzB 27 0) (by kernel_rfl) rfl rfl ⟨(zzx HB.out d0),(zzx HB.out c7),(zzx HB.out c4),(zzx HB.out c1),(zzx HB.out b9),(zzx HB.out b1)⟩ (fun b2=>?_);refine with_tabW Qn.tab4 Qn.bits4 (fun a2 k4=>?_);generalize wr.drew=q1 at HB e1 a5 a6 a7 a8 a9 b0 b2 ⊢;refine zzP 0 10 27 1 a2 ?_
      refine zzP 1 11 27 3 a2 ?_
      refine zzP 2 12 27 7 a2 ?_
      refine zzT 3 13 27 15 a2 k4 b2 ?_
      refine one_ (i:=4) (N:=some 14) (zzB 27 31) rfl rfl (one_of a2.out (by kernel_rfl)) (by decide) (fun K hK=>?_);refine goes_ Try.func66 (by kernel_rfl) rfl #[.agg #[.bool ((Qa l0 a0).f0),.bool ((Qa l0 a0).f1),.int .i64 ((Qa l0 a0).f2),.int .i64 ((Qa l0 a0).f3),.int .i64 ((Qa l0 a0).f4),.slice g7 ((Qa l0 a0).f5).length d7]] (by rfl) rfl rfl zzM2 ?_;with_reducible refine (Qm.calls k1 ((Qa l0 a0).f0) ((Qa l0 a0).f1) ((Qa l0 a0).f2) ((Qa l0 a0).f3) ((Qa l0 a0).f4) _ _ ((Qa l0 a0).f5) false _ ?side1 ?side2 A4.out).mono ?_
      (case side1=>exact zzcb e1 HB)
      (case side2=>exact g8.out);rintro e q2 ⟨rfl,hb⟩;refine ⟨_,rfl,?_⟩;have d8:=zzm (zzp zzh1 hb);clear HB;have HB:=d8;clear d8
      (try clear hb)
      (try clear hb2)
      (try clear hk)
      (try clear hi);refine hK.out _ _ ⟨(zzx HB.out d0),(zzx HB.out c7),(zzx HB.out c4),(zzx HB.out c1),(zzx HB.out b9),(zzx HB.out b1)⟩ (fun b2=>?_);clear hK K;refine zzO 14 ?_
      refine zzP 5 15 27 63 a2 ?_
      refine zzP 6 16 27 127 a2 ?_
      refine zzU 7 17 27 255 a2 ?_
      refine zzU 8 18 27 511 a2 ?_
      refine zzU 9 19 27 1023 a2 ?_
      refine zzU 10 20 27 2047 a2 ?_
      refine zzU 11 21 27 4095 a2 ?_
      refine zzU 12 22 27 8191 a2 ?_
      refine zzU 13 23 27 16383 a2 ?_
      refine zzU 14 24 27 32767 a2 ?_
      refine zzU 15 25 27 65535 a2 ?_
      refine zzU 16 26 27 131071 a2 ?_
      refine zzU 17 27 27 262143 a2 ?_
      refine zzU 18 28 27 524287 a2 ?_
      refine zzU 19 29 27 1048575 a2 ?_
      refine zzU 20 30 27 2097151 a2 ?_
      refine zzU 21 31 27 4194303 a2 ?_
      refine zzU 22 32 27 8388607 a2 ?_
      refine zzU 23 33 27 16777215 a2 ?_
      refine zzU 24 34 27 33554431 a2 ?_
      refine zzU 25 35 27 67108863 a2 ?_
      refine zzP 26 36 27 134217727 a2 ?_
      refine done_ (done_of a2.out (by kernel_rfl)) ?_;try go_wp2
      go_ret;exact ⟨zzR,zzh1⟩
    ·
     rw [if_neg c3] at H;exact absurd H (by simp)
   ·
    rw [if_neg c2] at H;have o4:decide (a0 < (l0.length:Int))=false:=decide_eq_false c2;clear c2;obtain rfl:=Option.some.inj H;go_wp2;go_ret;exact ⟨zzR,zzh1⟩
def Rb.f (k:Nat) (l0:List (S34)) (a1:Bool):Option (Int):=(Qn.f k l0).bind fun t444=>(if t444=true then ((Qv.f k l0).bind fun t445=>((Qh.f k l0 a1).bind fun t448=>((Qv.f k t448).bind fun t451=>(some (wrap64 ((t445.length:Int) - (t451.length:Int))))))) else (some (-1)))
set_option maxHeartbeats 8000000 in
theorem Rb.calls (k:Nat) (A0:Option Addr) (c0:Nat) (l0:List (S34)) (a1:Bool) (r:Int) (w:World) (b5:Kd.C k34 w A0 l0.length l0) (b6:l0.length≤c0) (h:Rb.f k l0 a1=some r) :
  Calls Try.prog 22 #[.slice A0 l0.length c0,.bool a1] w fun e w'=>e = .returned (.int .i64 r)∧Below w.heap.size w w':=by
 have b2:=zzm b5;have b3:=zzm b6;clear b5 b6;have HB:=zzm (Below.refl w.heap.size w);have H:((Qn.f k l0).bind fun a8=>(if a8=true then ((Qv.f k l0).bind fun a4=>((Qh.f k l0 a1).bind fun a6=>((Qv.f k a6).bind fun a9=>(some (wrap64 ((a4.length:Int) - (a9.length:Int))))))) else (some (-1))))=some r:=h;clear h;obtain ⟨a8,A3,H⟩:=zzG H;by_cases c4:a8=true
 ·
  subst c4;replace H:=zzIt H;obtain ⟨a4,A5,H⟩:=zzG H;obtain ⟨a6,A6,H⟩:=zzG H;obtain ⟨a9,A7,H⟩:=zzG H;obtain rfl:=Option.some.inj H;go_enter Try.func22,Try.ntmps22;go_wp2_with (first|((with_reducible refine gate_callee (f:=43) rfl ?_);refine goesL_ (some 6) rfl rfl Try.func43 (by kernel_rfl) rfl #[.slice A0 l0.length c0] rfl zzM2 ?_;(with_reducible refine (Qn.calls k _ _ l0 true _ ?side1 ?side2 A3.out).mono ?_);(case side1=>repeat (first|exact b2.out|(with_reducible refine Kd.C_alloc ?_ _)|(with_reducible refine Kd.C_drewN ?_ _)|(with_reducible refine Kd.C_drew ?_)));(case side2=>exact b3.out);rintro e w8 ⟨rfl,hb⟩;refine ⟨_,rfl,?_⟩;have a2:=zzm (zzp zzh1 hb);clear HB;have HB:=a2;clear a2;(try clear hb);(try clear hb2);(try clear hk);(try clear hi))|((with_reducible refine gate_callee (f:=47) rfl ?_);refine goesL_ (some 9) rfl rfl Try.func47 (by kernel_rfl) rfl #[.slice A0 l0.length c0] rfl zzM2 ?_;(with_reducible refine (Qv.calls k (fun k_=>k_ < w.heap.size) _ _ l0 a4 _ ?side1 A5.out).mono ?_);(case side1=>exact Kd.V_mk b3.out (Kd.F_below (Kd.C_F k34_heap b2.out) zzh1));rintro e w9 ⟨c1,rfl,ho0,hb⟩;refine ⟨_,rfl,?_⟩;have a2:=zzm (Kd.N_lower (Kd.N_mono (ok':=fun k_=>True) ho0 (fun k_ hk_=>trivial)) (zzo zzh1));have a5:=zzm (zzp zzh1 hb);clear HB;have a0:=a2;have HB:=a5;clear a2 a5;(try clear hb);(try clear hb2);(try clear hk);(try clear hi);(try clear ho0);obtain ⟨b0,b1,eo10⟩:=Kd.N_slice a0.out;subst eo10)|((with_reducible refine gate_callee (f:=48) rfl ?_);refine goesL_ (some 13) rfl rfl Try.func48 (by kernel_rfl) rfl #[.slice A0 l0.length c0,.bool a1] rfl zzM2 ?_;(with_reducible refine (Qh.calls k _ _ l0 a1 a6 _ ?side1 ?side2 A6.out).mono ?_);(case side1=>exact zzcb b2 HB);(case side2=>exact b3.out);rintro e c8 ⟨c2,rfl,ho0,hb⟩;refine ⟨_,rfl,?_⟩;have a2:=zzm (Kd.N_elder' (zzN a0.out) (by first|exact Kd.N_base ho0|exact Kd.S_base ho0|exact Kd.R_base ho0) hb);have a5:=zzm (Kd.N_lower (Kd.N_mono (ok':=fun k_=>some k_≠(.slice b0 a4.length b1:Value).ownBlock) (Kd.R_N (Kd.R_bound ho0)) (fun k_ hk_=>(Kd.fresh' (Kd.N_lt (zzN a0.out)) k_ hk_.2.1))) (zzo zzh1));have a7:=zzm (zzp zzh1 hb);clear a0 HB;have a0:=a2;have a3:=a5;have HB:=a7;clear a2 a5 a7;(try clear hb);(try clear hb2);(try clear hk);(try clear hi);(try clear ho0);obtain ⟨b8,b9,eo12⟩:=Kd.N_slice a3.out;subst eo12)|((with_reducible refine gate_callee (f:=47) rfl ?_);refine goesL_ (some 14) rfl rfl Try.func47 (by kernel_rfl) rfl #[.slice b8 a6.length b9] rfl zzM2 ?_;(with_reducible refine (Qv.calls k (fun k_=>some k_≠(.slice b0 a4.length b1:Value).ownBlock) _ _ a6 a9 _ ?side1 A7.out).mono ?_);(case side1=>exact Kd.N_V (a3.out));rintro e c9 ⟨c3,rfl,ho0,hb⟩;refine ⟨_,rfl,?_⟩;have a2:=zzm (Kd.N_elder' (zzN a0.out) (by first|exact Kd.N_base ho0|exact Kd.S_base ho0|exact Kd.R_base ho0) hb);have a5:=zzm (Kd.N_elder' (zzN a3.out) (by first|exact Kd.N_base ho0|exact Kd.S_base ho0|exact Kd.R_base ho0) hb);have a7:=zzm (Kd.N_lower (Kd.N_mono (ok':=fun k_=>some k_≠(.slice b0 a4.length b1:Value).ownBlock) ho0 (fun k_ hk_=>Or.elim hk_ (fun hs_=>hs_) (fun hn_=>(Kd.fresh' (Kd.N_lt (zzN a0.out)) k_ hn_)))) (zzo zzh1));have b7:=zzm (zzp zzh1 hb);clear a0 a3 HB;have a0:=a2;have a3:=a5;have b4:=a7;have HB:=b7;clear a2 a5 a7 b7;(try clear hb);(try clear hb2);(try clear hk);(try clear hi);(try clear ho0);obtain ⟨c5,c7,eo14⟩:=Kd.N_slice b4.out;subst eo14));go_ret;exact ⟨zzR,zzh1⟩
 ·
  replace c4:=Bool.eq_false_iff.mpr c4;subst c4;replace H:=zzIf H;obtain rfl:=Option.some.inj H;go_enter Try.func22,Try.ntmps22;go_wp2_with (first|((with_reducible refine gate_callee (f:=43) rfl ?_);refine goesL_ (some 6) rfl rfl Try.func43 (by kernel_rfl) rfl #[.slice A0 l0.length c0] rfl zzM2 ?_;(with_reducible refine (Qn.calls k _ _ l0 false _ ?side1 ?side2 A3.out).mono ?_);(case side1=>repeat (first|exact b2.out|(with_reducible refine Kd.C_alloc ?_ _)|(with_reducible refine Kd.C_drewN ?_ _)|(with_reducible refine Kd.C_drew ?_)));(case side2=>exact b3.out);rintro e d0 ⟨rfl,hb⟩;refine ⟨_,rfl,?_⟩;have a2:=zzm (zzp zzh1 hb);clear HB;have HB:=a2;clear a2;(try clear hb);(try clear hb2);(try clear hk);(try clear hi)));go_ret;exact ⟨zzR,zzh1⟩
def Qw.l0:Nat→List (S34)→List (S30)→Int→Option ((List (S30)))
 | 0,_,_,_=>none
 | k+1,x0,x3,x4=>if x4 < (x0.length:Int) then (if 0≤x4 then (if x3.length+((Qa x0 x4).f5).length < 1759218604441 then (Qw.l0 k x0 (x3++((Qa x0 x4).f5)) (wrap64 (x4+1))) else (none)) else (none)) else (some x3)
def Qw.f (k:Nat) (l0:List (S34)):Option ((List (S30))):=Qw.l0 k l0 (([]:List (S30))) 0
set_option maxHeartbeats 8000000 in
theorem Qw.calls (k:Nat) (P0_:Nat→Prop) (A0:Option Addr) (c0:Nat) (l0:List (S34)) (r:List (S30)) (w:World) (e3:Kd.V k34 34 w w.heap.size (fun k_=>P0_ k_) (.slice A0 l0.length c0) l0) (h:Qw.f k l0=some r) :
  Calls Try.prog 24 #[.slice A0 l0.length c0] w fun e w'=>∃ c9:Value,e = .returned (c9)∧Kd.N k30 30 w' w.heap.size (fun k_=>(P0_ k_∨w.heap.size≤k_)) c9 r∧Below w.heap.size w w':=by
 have b6:=zzm (show Kd.V k34 34 w w.heap.size (fun k_=>(P0_ k_∨w.heap.size≤k_)) (.slice A0 l0.length c0) l0 from Kd.V_mono e3 (fun k_ hk=>.inl hk));have HB:=zzm (Below.refl w.heap.size w);have H:(Qw.l0 k l0 (([]:List (S30))) 0)=some r:=h;clear h;obtain ⟨y454,hy454⟩:∃ y_:List (S30),y_=(([]:List (S30))):=⟨_,rfl⟩;replace H:(Qw.l0 k l0 y454 0)=some r:=by first|(rw [hy454];with_reducible exact H)|(have H2_:=(Option.bind_some _ _).symm.trans H;rw [hy454];with_reducible exact H2_)|(have H2_:=(Option.bind_some _ _).symm.trans H;with_reducible exact H2_)|with_reducible exact H|(rw [hy454];exact H)|exact H
 have Ny454:=zzm hy454;clear hy454;have H':=zzm H;clear H;go_enter Try.func24,Try.ntmps24;go_wp2_with (first|((with_reducible refine gate_dst (N:=5) rfl ?_);refine Kd.N_lit k30 _ 30 ?hg (N':=5) ?hd (xs:=([]:List (S30))) (inner:=[]) (ok:=(fun k_=>(P0_ k_∨w.heap.size≤k_))) (okp:=(fun k_=>(P0_ k_∨w.heap.size≤k_))) ?hr ?hp (fun _ hk=>hk) ((show ∀ k_,w.heap.size≤k_→(fun k_=>(P0_ k_∨w.heap.size≤k_)) k_ from fun k_ hk=>(.inr (Nat.le_trans (zzo zzh1) hk))) _ (Nat.le_refl _)) (Below.refl _ _) (Nat.le_refl _) (by simp) ?_;(case hd=>rfl);(case hg=>rfl);(case hr=>first|(go_simp;done)|(go_simp;rfl));(case hp=>exact (Reps.none _ _));intro e8 w2 ho3 hb hg_ hnew_;clear hg_ hnew_;(first|rw [← Ny454.out] at ho3|(simp only [Int.reduceToNat] at ho3;rw [← Ny454.out] at ho3));have b1:=zzm (Kd.V_elder' (zzV b6.out) (Kd.N_base ho3) hb);have b2:=zzm (Kd.N_lower ho3 (zzo zzh1));have b3:=zzm (zzp zzh1 hb);clear b6 HB;have b6:=b1;have c7:=b2;have HB:=b3;clear b1 b2 b3 hb ho3));go_loopg [3,4] k (fun kq v3 v4 w'=>∃ (a4:List (S30)) (a0:Int),v4 = .int .i64 a0∧Aside0 (Qw.l0 kq l0 a4 a0=some r)∧Aside0 (kq≤k)∧Aside0 (Kd.V k34 34 w' w.heap.size (fun k_=>(P0_ k_∨w.heap.size≤k_)∧some k_≠(v3:Value).ownBlock) (.slice A0 l0.length c0) l0)∧Aside0 (Kd.N k30 30 w' w.heap.size (fun k_=>(P0_ k_∨w.heap.size≤k_)) v3 a4)∧Aside0 (Below w.heap.size w w'))
 case atStart=>exact ⟨(y454),(0),(by first|rfl|(simp;done)|(simp [*];done)),H',⟨Nat.le_refl _⟩,⟨by (with_reducible repeat (first|apply Kd.V_alloc|apply Kd.V_drewN|apply Kd.V_drew));exact b6.out⟩,⟨by (with_reducible repeat (first|apply Kd.N_alloc|apply Kd.N_drewN|apply Kd.N_drew));exact c7.out⟩,⟨zzh1⟩⟩
 case round=>
  clear H';try clear c2
  try clear p2
  obtain ⟨a4,a0,rfl,HA,HK1,a3,b5,HB⟩:=hrel;cases gk with
  | zero=>exact absurd HA.out (by simp [Qw.l0])
  | succ k1=>
   have H:=HA.out;clear HA;simp only [Qw.l0] at H;by_cases c4:a0 < (l0.length:Int)
   ·
    rw [if_pos c4] at H;have d1:decide (a0 < (l0.length:Int))=true:=decide_eq_true c4;clear c4;by_cases c5 : 0≤a0
    ·
     rw [if_pos c5] at H;have e9:decide (0≤a0)=true:=decide_eq_true c5;clear c5;by_cases c6:a4.length+((Qa l0 a0).f5).length < 1759218604441
     ·
      rw [if_pos c6] at H;have LMc6:=zzm c6;clear c6;obtain ⟨y458,hy458⟩:∃ y_:List (S30),y_=(a4++((Qa l0 a0).f5)):=⟨_,rfl⟩;replace H:(Qw.l0 k1 l0 y458 (wrap64 (a0+1)))=some r:=by first|(rw [hy458];with_reducible exact H)|(have H2_:=(Option.bind_some _ _).symm.trans H;rw [hy458];with_reducible exact H2_)|(have H2_:=(Option.bind_some _ _).symm.trans H;with_reducible exact H2_)|with_reducible exact H|(rw [hy458];exact H)|exact H
      have Ny458:=zzm hy458;clear hy458;have H':=zzm H;clear H;have a9 : 0≤(a0:Int):=zzt;have b0:a0 < (l0.length:Int):=zzt;obtain ⟨e6,e4,e5,d2,d4,d5,d6,d7,d8,b7,a7,a8⟩:=Ra (Kd.V_reads' a3.out).2.2 a0 a9 b0;cases d2;obtain ⟨e7,b8,b9,b4⟩:=Kd.V_get a3.out z34 a0 a9 (by first|exact b0|exact zzt|(have e_:=(Kd.V_reads' a3.out).1;omega));obtain ⟨d9,e0,rfl,a5,a6⟩:=k34_openF b9;have a1:=b4 5 _ rfl;rw [add_field _ _ 5 (by omega)] at a1;replace a1:=Option.some.inj (a1.symm.trans b7);injection a1 with c1 d3 c3;rw [c1] at a6;rw [c3] at a5;have a2:=zzm (show Kd.V k30 30 _ w.heap.size _ _ ((Qa l0 a0).f5) from Kd.V_mk a5 a6);clear c1 d3 c3 a6 a5;clear b4 b8;have e1:=zzm a8;have e2:=zzm a7;clear a8 a7;replace a9:=eq_true a9;replace b0:=eq_true b0;go_wp2_with (first|((with_reducible refine gate_builtin (b:=.append) (xs:=#[.tmp 12,.tmp 17]) rfl ?_);at_builtin;refine Kd.N_append_rows k30 (w0:=w) w.heap.size rfl (.tmp 12) (.tmp 17) 25 30 (.agg #[(.int .i64 0),(.int .i64 0),(.bool false),(.slice none 0 0),(.bool false),(.slice none 0 0)]) 80 rfl Try.underlying25 info30 rfl (by decide) (by omega) u3 a4 ((Qa l0 a0).f5) _ _ _ (fun k_=>(P0_ k_∨w.heap.size≤k_)) (fun k_=>((fun k_=>(P0_ k_∨w.heap.size≤k_))) k_∧some k_≠(u3:Value).ownBlock) rfl rfl ?aO ?aR (fun _ hk=>hk) ?aF ?aB ?aS ?aL ?_;(case aR=>exact (by skip;exact Kd.V_F (Kd.V_mono (ok':=(fun k_=>((fun k_=>(P0_ k_∨w.heap.size≤k_))) k_∧some k_≠(u3:Value).ownBlock)) (a2.out) (fun k_ hk=>⟨hk.1,hk.2⟩))));(case aB=>exact zzh1);(case aF=>exact (fun k_ hk=>(.inr (Nat.le_trans (zzo zzh1) hk))));(case aO=>exact (zzN b5.out));(case aS=>exact (zzo zzh1));(case aL=>have:=LMc6.out;omega);intro g0 w7 ho hb hg hat;rw [← Ny458.out] at ho;have b1:=zzm (Kd.V_afterv (ok:=(fun k_=>(P0_ k_∨w.heap.size≤k_))) (zzV a3.out) hg hat);have b2:=zzm (Kd.V_afterv (ok:=(fun k_=>(P0_ k_∨w.heap.size≤k_))) (zzV a2.out) hg hat);have b3:=zzm (hb);have d0:=zzm (ho);clear a3 a2 HB b5;have a3:=b1;have a2:=b2;have HB:=b3;have c8:=d0;clear b1 b2 b3 d0 ho hb hg hat));go_roundg k1
      case measure=>have:=HK1.out;omega
      case rel=>exact ⟨(y458),(wrap64 (a0+1)),(by first|rfl|(simp;done)|(simp [*];done)),H',⟨by have:=HK1.out;omega⟩,⟨by (with_reducible repeat (first|apply Kd.V_alloc|apply Kd.V_drewN|apply Kd.V_drew));exact a3.out⟩,⟨by (with_reducible repeat (first|apply Kd.N_alloc|apply Kd.N_drewN|apply Kd.N_drew));exact c8.out⟩,⟨zzh1⟩⟩
     ·
      rw [if_neg c6] at H;exact absurd H (by simp)
    ·
     rw [if_neg c5] at H;exact absurd H (by simp)
   ·
    rw [if_neg c4] at H;have d1:decide (a0 < (l0.length:Int))=false:=decide_eq_false c4;clear c4;obtain rfl:=Option.some.inj H;go_wp2;go_ret;exact ⟨_,zzR,by (with_reducible repeat (first|apply Kd.N_alloc|apply Kd.N_drewN|apply Kd.N_drew));exact b5.out,zzh1⟩
def laws_FnCompactLeft.j0:Nat→List (S34)→Bool→Int→Int→Bool→Option (Bool)
 | 0,_,_,_,_,_=>none
 | k+1,x3,x4,x5,x6,x29=>if x29=true then (some (x5==x6)) else ((Qu.f k x3 x4).bind fun bt467=>(if bt467.2=true then ((Qw.f k x3).bind fun t471=>((Qw.f k bt467.1).bind fun t474=>(if (wrap64 ((t471.length:Int) - (t474.length:Int)))=x5 then ((Qx.f k x3 false).bind fun t477=>(some (decide (t477 ≥ x5)))) else (some false)))) else (some false)))
def laws_FnCompactLeft.f (k:Nat) (l0:List Int):Option (Bool):=if (l0.length:Int) > 1048576 then (some true) else ((Rd.f k l0).bind fun bt461=>((Qx.f k bt461.1 bt461.2).bind fun t465=>((Rb.f k bt461.1 bt461.2).bind fun t466=>(if t465=t466 then (laws_FnCompactLeft.j0 k bt461.1 bt461.2 t465 t466 (decide (t466 < 0))) else (laws_FnCompactLeft.j0 k bt461.1 bt461.2 t465 t466 true)))))
set_option maxHeartbeats 8000000 in
theorem laws_FnCompactLeft.calls (k:Nat) (A0:Option Addr) (c0:Nat) (l0:List Int) (r:Bool) (w:World) (e7:Kd.C (Kd.int .u8) w A0 l0.length l0) (e8:l0.length≤c0) (h:laws_FnCompactLeft.f k l0=some r) :
  Calls Try.prog 5 #[.slice A0 l0.length c0] w fun e w'=>e = .returned (.bool r)∧Below w.heap.size w w':=by
 have g4:=zzm e7;have g5:=zzm e8;clear e7 e8;have HB:=zzm (Below.refl w.heap.size w);have H:(if (l0.length:Int) > 1048576 then (some true) else ((Rd.f k l0).bind fun b1=>((Qx.f k b1.1 b1.2).bind fun a9=>((Rb.f k b1.1 b1.2).bind fun b0=>(if a9=b0 then (laws_FnCompactLeft.j0 k b1.1 b1.2 a9 b0 (decide (b0 < 0))) else (laws_FnCompactLeft.j0 k b1.1 b1.2 a9 b0 true))))))=some r:=h;clear h;by_cases c2:(l0.length:Int) > 1048576
 ·
  rw [if_pos c2] at H;have d5:decide (1048576 < (l0.length:Int))=true:=decide_eq_true c2;have d6:decide (1048576 < l0.length)=true:=decide_eq_true (by omega);clear c2;obtain rfl:=Option.some.inj H;go_enter Try.func5,Try.ntmps5;go_wp2;go_ret;exact ⟨zzR,zzh1⟩
 ·
  rw [if_neg c2] at H;have d5:decide (1048576 < (l0.length:Int))=false:=decide_eq_false c2;have d6:decide (1048576 < l0.length)=false:=decide_eq_false (by omega);clear c2;replace H:=zzH H;obtain ⟨⟨a1,a8⟩,e9,H⟩:=H;replace H:((Qx.f k a1 a8).bind fun a9=>((Rb.f k a1 a8).bind fun b0=>(if a9=b0 then (laws_FnCompactLeft.j0 k a1 a8 a9 b0 (decide (b0 < 0))) else (laws_FnCompactLeft.j0 k a1 a8 a9 b0 true))))=some r:=H;have A3:=zzm e9;clear e9;obtain ⟨a9,A4,H⟩:=zzG H;obtain ⟨b0,A5,H⟩:=zzG H;have d7:=zzm H;clear H;go_enter Try.func5,Try.ntmps5;go_upto_region 6 with (first|((with_reducible refine gate_callee (f:=20) rfl ?_);refine goesL_ (some 14) rfl rfl Try.func20 (by kernel_rfl) rfl #[.slice A0 l0.length c0] rfl zzM2 ?_;(with_reducible refine (Rd.calls k _ _ l0 a1 a8 _ ?side1 ?side2 A3.out).mono ?_);(case side1=>repeat (first|exact g4.out|(with_reducible refine Kd.C_alloc ?_ _)|(with_reducible refine Kd.C_drewN ?_ _)|(with_reducible refine Kd.C_drew ?_)));(case side2=>exact g5.out);rintro e w7 ⟨g8,rfl,ho0,hb⟩;refine ⟨_,rfl,?_⟩;have a3:=zzm (Kd.N_lower (Kd.N_mono (ok':=fun k_=>True) ho0 (fun k_ hk_=>trivial)) (zzo zzh1));have a4:=zzm (zzp zzh1 hb);clear HB;have a7:=a3;have HB:=a4;clear a3 a4;(try clear hb);(try clear hb2);(try clear hk);(try clear hi);(try clear ho0);obtain ⟨b3,b4,eo8⟩:=Kd.N_slice a7.out;subst eo8)|((with_reducible refine gate_callee (f:=21) rfl ?_);refine goesL_ (some 19) rfl rfl Try.func21 (by kernel_rfl) rfl #[.slice b3 a1.length b4,.bool a8] rfl zzM2 ?_;(with_reducible refine (Qx.calls k _ _ a1 a8 a9 _ ?side1 ?side2 A4.out).mono ?_);(case side1=>repeat (first|exact (Kd.N_reads' a7.out).2.2|(with_reducible refine Kd.C_alloc ?_ _)|(with_reducible refine Kd.C_drewN ?_ _)|(with_reducible refine Kd.C_drew ?_)));(case side2=>exact (Kd.N_reads' a7.out).2.1);rintro e w9 ⟨rfl,hb⟩;refine ⟨_,rfl,?_⟩;have a3:=zzm (Kd.N_below (zzN a7.out) hb);have a4:=zzm (zzp zzh1 hb);clear a7 HB;have a7:=a3;have HB:=a4;clear a3 a4;(try clear hb);(try clear hb2);(try clear hk);(try clear hi))|((with_reducible refine gate_callee (f:=22) rfl ?_);refine goesL_ (some 22) rfl rfl Try.func22 (by kernel_rfl) rfl #[.slice b3 a1.length b4,.bool a8] rfl zzM2 ?_;(with_reducible refine (Rb.calls k _ _ a1 a8 b0 _ ?side1 ?side2 A5.out).mono ?_);(case side1=>repeat (first|exact (Kd.N_reads' a7.out).2.2|(with_reducible refine Kd.C_alloc ?_ _)|(with_reducible refine Kd.C_drewN ?_ _)|(with_reducible refine Kd.C_drew ?_)));(case side2=>exact (Kd.N_reads' a7.out).2.1);rintro e h7 ⟨rfl,hb⟩;refine ⟨_,rfl,?_⟩;have a3:=zzm (Kd.N_below (zzN a7.out) hb);have a4:=zzm (zzp zzh1 hb);clear a7 HB;have a7:=a3;have HB:=a4;clear a3 a4;(try clear hb);(try clear hb2);(try clear hk);(try clear hi)))
  (try simp only [Act.put,zzq,zzr,zzs]);go_cut [29] (fun g6 wc=>∃ (kq:Nat) (c7:Bool),g6 = .bool c7∧Aside0 (laws_FnCompactLeft.j0 kq a1 a8 a9 b0 c7=some r)∧Aside0 (kq≤k)∧Aside0 (Kd.N k34 34 wc w.heap.size (fun _=>True) (.slice b3 a1.length b4) a1)∧Aside0 (Below w.heap.size w wc))
  case first=>
   have H:=d7.out;clear d7;by_cases c9:a9=b0
   ·
    rw [if_pos c9] at H;obtain ⟨b7,d2⟩:=zzQ c9;clear c9
    (first|rw [b7]|(simp only [i64_w,i32_w];rw [b7])|skip);have H':=zzm H;clear H;go_wp2;go_meet
    case rel=>exact ⟨_,(decide (b0 < 0)),(by first|rfl|(simp;done)|(simp [*];done)),H',⟨by first|omega|exact Nat.le_refl _⟩,⟨by (with_reducible repeat (first|apply Kd.N_alloc|apply Kd.N_drewN|apply Kd.N_drew));exact a7.out⟩,⟨zzh1⟩⟩
   ·
    rw [if_neg c9] at H;obtain ⟨b7,d2⟩:=zzY c9
    (first|rw [b7]|(simp only [i64_w,i32_w];rw [b7])|skip);have H':=zzm H;clear H;go_wp2;go_meet
    case rel=>exact ⟨_,(true),(by first|rfl|(simp;done)|(simp [*];done)),H',⟨by first|omega|exact Nat.le_refl _⟩,⟨by (with_reducible repeat (first|apply Kd.N_alloc|apply Kd.N_drewN|apply Kd.N_drew));exact a7.out⟩,⟨zzh1⟩⟩
  case rest=>
   clear d7;try clear c1
   try clear c2
   try clear d5
   try clear d6
   try clear p2
   try clear c5
   try clear c9
   try clear b7
   try clear d2
   obtain ⟨kq,c7,rfl,HA,HJ5,a0,HB⟩:=hcut;cases kq with
   | zero=>exact absurd HA.out (by simp [laws_FnCompactLeft.j0])
   | succ b6=>
    have H:=HA.out;clear HA;simp only [laws_FnCompactLeft.j0] at H;by_cases d3:c7=true
    ·
     subst d3;replace H:=zzIt H;obtain rfl:=Option.some.inj H;go_wp2;go_ret;exact ⟨zzR,zzh1⟩
    ·
     replace d3:=Bool.eq_false_iff.mpr d3;subst d3;replace H:=zzIf H;replace H:=zzH H;obtain ⟨⟨b9,d8⟩,d9,H⟩:=H;replace H:(if d8=true then ((Qw.f b6 a1).bind fun b5=>((Qw.f b6 b9).bind fun c8=>(if (wrap64 ((b5.length:Int) - (c8.length:Int)))=a9 then ((Qx.f b6 a1 false).bind fun d1=>(some (decide (d1 ≥ a9)))) else (some false)))) else (some false))=some r:=H;have e0:=zzm d9;clear d9;by_cases d4:d8=true
     ·
      subst d4;replace H:=zzIt H;obtain ⟨b5,g0,H⟩:=zzG H;obtain ⟨c8,g1,H⟩:=zzG H;by_cases d0:(wrap64 ((b5.length:Int) - (c8.length:Int)))=a9
      ·
       rw [if_pos d0] at H;obtain ⟨e5,e6⟩:=zzQ d0;clear d0;obtain ⟨d1,g7,H⟩:=zzG H;obtain rfl:=Option.some.inj H;go_wp2_with (first|((with_reducible refine gate_callee (f:=23) rfl ?_);refine goesL_ (some 36) rfl rfl Try.func23 (by kernel_rfl) rfl #[.slice b3 a1.length b4,.bool a8] rfl zzM2 ?_;(with_reducible refine (Qu.calls b6 _ _ a1 a8 b9 true _ ?side1 ?side2 e0.out).mono ?_);(case side1=>repeat (first|exact (Kd.N_reads' a0.out).2.2|(with_reducible refine Kd.C_alloc ?_ _)|(with_reducible refine Kd.C_drewN ?_ _)|(with_reducible refine Kd.C_drew ?_)));(case side2=>exact (Kd.N_reads' a0.out).2.1);rintro e h8 ⟨c3,rfl,ho0,hb⟩;refine ⟨_,rfl,?_⟩;have a3:=zzm (Kd.N_elder' (zzN a0.out) (by first|exact Kd.N_base ho0|exact Kd.S_base ho0|exact Kd.R_base ho0) hb);have a4:=zzm (Kd.N_lower (Kd.N_mono (ok':=fun k_=>some k_≠(.slice b3 a1.length b4:Value).ownBlock) (Kd.R_N (Kd.R_bound ho0)) (fun k_ hk_=>(Kd.fresh' (Kd.N_lt (zzN a0.out)) k_ hk_.2.1))) (zzo zzh1));have a6:=zzm (zzp zzh1 hb);clear a0 HB;have a0:=a3;have a2:=a4;have HB:=a6;clear a3 a4 a6;(try clear hb);(try clear hb2);(try clear hk);(try clear hi);(try clear ho0))|(go_at_call 24;(with_reducible refine (Qw.calls b6 (fun k_=>(True∧some k_≠(c3:Value).ownBlock)) _ _ a1 b5 _ ?side1 g0.out).mono ?_);(case side1=>exact Kd.N_V (a0.out));rintro e h9 ⟨g2,rfl,ho0,hb⟩;have a3:=zzm (Kd.N_elder' (zzN a0.out) (by first|exact Kd.N_base ho0|exact Kd.S_base ho0|exact Kd.R_base ho0) hb);have a4:=zzm (Kd.N_elder' (zzN a2.out) (by first|exact Kd.N_base ho0|exact Kd.S_base ho0|exact Kd.R_base ho0) hb);have a6:=zzm (Kd.N_lower (Kd.N_mono (ok':=fun k_=>some k_≠(c3:Value).ownBlock) ho0 (fun k_ hk_=>Or.elim hk_ (fun hs_=>hs_.2) (fun hn_=>(Kd.fresh' (Kd.N_lt (zzN a2.out)) k_ hn_)))) (zzo zzh1));have b2:=zzm (zzp zzh1 hb);clear a0 a2 HB;have a0:=a3;have a2:=a4;have a5:=a6;have HB:=b2;clear a3 a4 a6 b2;(try clear hb);(try clear hb2);(try clear hk);(try clear hi);(try clear ho0);obtain ⟨e1,e2,eo21⟩:=Kd.N_slice a5.out;subst eo21;obtain ⟨g9,h0,eo22⟩:=Kd.N_slice a2.out;subst eo22)|(go_at_call 24;(with_reducible refine (Qw.calls b6 (fun k_=>(some k_≠(.slice b3 a1.length b4:Value).ownBlock∧some k_≠(.slice e1 b5.length e2:Value).ownBlock)) _ _ b9 c8 _ ?side1 g1.out).mono ?_);(case side1=>exact Kd.N_V (a2.out));rintro e j3 ⟨g3,rfl,ho0,hb⟩;have a3:=zzm (Kd.N_elder' (zzN a0.out) (by first|exact Kd.N_base ho0|exact Kd.S_base ho0|exact Kd.R_base ho0) hb);have a4:=zzm (Kd.N_elder' (zzN a2.out) (by first|exact Kd.N_base ho0|exact Kd.S_base ho0|exact Kd.R_base ho0) hb);have a6:=zzm (Kd.N_elder' (zzN a5.out) (by first|exact Kd.N_base ho0|exact Kd.S_base ho0|exact Kd.R_base ho0) hb);have b2:=zzm (Kd.N_lower (Kd.N_mono (ok':=fun k_=>some k_≠(.slice b3 a1.length b4:Value).ownBlock∧some k_≠(.slice e1 b5.length e2:Value).ownBlock) ho0 (fun k_ hk_=>⟨Or.elim hk_ (fun hs_=>hs_.1) (fun hn_=>(Kd.fresh' (Kd.N_lt (zzN a0.out)) k_ hn_)),Or.elim hk_ (fun hs_=>hs_.2) (fun hn_=>(Kd.fresh' (Kd.N_lt (zzN a5.out)) k_ hn_))⟩)) (zzo zzh1));have c4:=zzm (zzp zzh1 hb);clear a0 a2 a5 HB;have a0:=a3;have a2:=a4;have a5:=a6;have b8:=b2;have HB:=c4;clear a3 a4 a6 b2 c4;(try clear hb);(try clear hb2);(try clear hk);(try clear hi);(try clear ho0);obtain ⟨h1,h2,eo24⟩:=Kd.N_slice b8.out;subst eo24)|(go_at_call 21;(with_reducible refine (Qx.calls b6 _ _ a1 false d1 _ ?side1 ?side2 g7.out).mono ?_);(case side1=>repeat (first|exact (Kd.N_reads' a0.out).2.2|(with_reducible refine Kd.C_alloc ?_ _)|(with_reducible refine Kd.C_drewN ?_ _)|(with_reducible refine Kd.C_drew ?_)));(case side2=>exact (Kd.N_reads' a0.out).2.1);rintro e j4 ⟨rfl,hb⟩;have a3:=zzm (Kd.N_below (zzN a0.out) hb);have a4:=zzm (Kd.N_below (zzN a2.out) hb);have a6:=zzm (Kd.N_below (zzN a5.out) hb);have b2:=zzm (Kd.N_below (zzN b8.out) hb);have c4:=zzm (zzp zzh1 hb);clear a0 a2 a5 b8 HB;have a0:=a3;have a2:=a4;have a5:=a6;have b8:=b2;have HB:=c4;clear a3 a4 a6 b2 c4;(try clear hb);(try clear hb2);(try clear hk);(try clear hi)));go_ret;exact ⟨zzR,zzh1⟩
      ·
       rw [if_neg d0] at H;obtain ⟨e5,e6⟩:=zzY d0;obtain rfl:=Option.some.inj H;go_wp2_with (first|((with_reducible refine gate_callee (f:=23) rfl ?_);refine goesL_ (some 36) rfl rfl Try.func23 (by kernel_rfl) rfl #[.slice b3 a1.length b4,.bool a8] rfl zzM2 ?_;(with_reducible refine (Qu.calls b6 _ _ a1 a8 b9 true _ ?side1 ?side2 e0.out).mono ?_);(case side1=>repeat (first|exact (Kd.N_reads' a0.out).2.2|(with_reducible refine Kd.C_alloc ?_ _)|(with_reducible refine Kd.C_drewN ?_ _)|(with_reducible refine Kd.C_drew ?_)));(case side2=>exact (Kd.N_reads' a0.out).2.1);rintro e j5 ⟨c3,rfl,ho0,hb⟩;refine ⟨_,rfl,?_⟩;have a3:=zzm (Kd.N_elder' (zzN a0.out) (by first|exact Kd.N_base ho0|exact Kd.S_base ho0|exact Kd.R_base ho0) hb);have a4:=zzm (Kd.N_lower (Kd.N_mono (ok':=fun k_=>some k_≠(.slice b3 a1.length b4:Value).ownBlock) (Kd.R_N (Kd.R_bound ho0)) (fun k_ hk_=>(Kd.fresh' (Kd.N_lt (zzN a0.out)) k_ hk_.2.1))) (zzo zzh1));have a6:=zzm (zzp zzh1 hb);clear a0 HB;have a0:=a3;have a2:=a4;have HB:=a6;clear a3 a4 a6;(try clear hb);(try clear hb2);(try clear hk);(try clear hi);(try clear ho0))|(go_at_call 24;(with_reducible refine (Qw.calls b6 (fun k_=>(True∧some k_≠(c3:Value).ownBlock)) _ _ a1 b5 _ ?side1 g0.out).mono ?_);(case side1=>exact Kd.N_V (a0.out));rintro e j6 ⟨g2,rfl,ho0,hb⟩;have a3:=zzm (Kd.N_elder' (zzN a0.out) (by first|exact Kd.N_base ho0|exact Kd.S_base ho0|exact Kd.R_base ho0) hb);have a4:=zzm (Kd.N_elder' (zzN a2.out) (by first|exact Kd.N_base ho0|exact Kd.S_base ho0|exact Kd.R_base ho0) hb);have a6:=zzm (Kd.N_lower (Kd.N_mono (ok':=fun k_=>some k_≠(c3:Value).ownBlock) ho0 (fun k_ hk_=>Or.elim hk_ (fun hs_=>hs_.2) (fun hn_=>(Kd.fresh' (Kd.N_lt (zzN a2.out)) k_ hn_)))) (zzo zzh1));have b2:=zzm (zzp zzh1 hb);clear a0 a2 HB;have a0:=a3;have a2:=a4;have a5:=a6;have HB:=b2;clear a3 a4 a6 b2;(try clear hb);(try clear hb2);(try clear hk);(try clear hi);(try clear ho0);obtain ⟨e3,e4,eo28⟩:=Kd.N_slice a5.out;subst eo28;obtain ⟨h3,h4,eo29⟩:=Kd.N_slice a2.out;subst eo29)|(go_at_call 24;(with_reducible refine (Qw.calls b6 (fun k_=>(some k_≠(.slice b3 a1.length b4:Value).ownBlock∧some k_≠(.slice e3 b5.length e4:Value).ownBlock)) _ _ b9 c8 _ ?side1 g1.out).mono ?_);(case side1=>exact Kd.N_V (a2.out));rintro e j7 ⟨g3,rfl,ho0,hb⟩;have a3:=zzm (Kd.N_elder' (zzN a0.out) (by first|exact Kd.N_base ho0|exact Kd.S_base ho0|exact Kd.R_base ho0) hb);have a4:=zzm (Kd.N_elder' (zzN a2.out) (by first|exact Kd.N_base ho0|exact Kd.S_base ho0|exact Kd.R_base ho0) hb);have a6:=zzm (Kd.N_elder' (zzN a5.out) (by first|exact Kd.N_base ho0|exact Kd.S_base ho0|exact Kd.R_base ho0) hb);have b2:=zzm (Kd.N_lower (Kd.N_mono (ok':=fun k_=>some k_≠(.slice b3 a1.length b4:Value).ownBlock∧some k_≠(.slice e3 b5.length e4:Value).ownBlock) ho0 (fun k_ hk_=>⟨Or.elim hk_ (fun hs_=>hs_.1) (fun hn_=>(Kd.fresh' (Kd.N_lt (zzN a0.out)) k_ hn_)),Or.elim hk_ (fun hs_=>hs_.2) (fun hn_=>(Kd.fresh' (Kd.N_lt (zzN a5.out)) k_ hn_))⟩)) (zzo zzh1));have c4:=zzm (zzp zzh1 hb);clear a0 a2 a5 HB;have a0:=a3;have a2:=a4;have a5:=a6;have b8:=b2;have HB:=c4;clear a3 a4 a6 b2 c4;(try clear hb);(try clear hb2);(try clear hk);(try clear hi);(try clear ho0);obtain ⟨h5,h6,eo31⟩:=Kd.N_slice b8.out;subst eo31));go_ret;exact ⟨zzR,zzh1⟩
     ·
      replace d4:=Bool.eq_false_iff.mpr d4;subst d4;replace H:=zzIf H;obtain rfl:=Option.some.inj H;go_wp2_with (first|((with_reducible refine gate_callee (f:=23) rfl ?_);refine goesL_ (some 36) rfl rfl Try.func23 (by kernel_rfl) rfl #[.slice b3 a1.length b4,.bool a8] rfl zzM2 ?_;(with_reducible refine (Qu.calls b6 _ _ a1 a8 b9 false _ ?side1 ?side2 e0.out).mono ?_);(case side1=>repeat (first|exact (Kd.N_reads' a0.out).2.2|(with_reducible refine Kd.C_alloc ?_ _)|(with_reducible refine Kd.C_drewN ?_ _)|(with_reducible refine Kd.C_drew ?_)));(case side2=>exact (Kd.N_reads' a0.out).2.1);rintro e j8 ⟨c3,rfl,ho0,hb⟩;refine ⟨_,rfl,?_⟩;have a3:=zzm (Kd.N_elder' (zzN a0.out) (by first|exact Kd.N_base ho0|exact Kd.S_base ho0|exact Kd.R_base ho0) hb);have a4:=zzm (Kd.N_lower (Kd.N_mono (ok':=fun k_=>some k_≠(.slice b3 a1.length b4:Value).ownBlock) (Kd.R_N (Kd.R_bound ho0)) (fun k_ hk_=>(Kd.fresh' (Kd.N_lt (zzN a0.out)) k_ hk_.2.1))) (zzo zzh1));have a6:=zzm (zzp zzh1 hb);clear a0 HB;have a0:=a3;have a2:=a4;have HB:=a6;clear a3 a4 a6;(try clear hb);(try clear hb2);(try clear hk);(try clear hi);(try clear ho0)));go_ret;exact ⟨zzR,zzh1⟩
def laws_FnCompactLeft.Pure:Prop:=∀ (l0:List Int),l0.length≤maxLen→l0.length * 1≤140737488351232→(∀ x∈l0,(Lit.int .u8 x).wf=true)→∃ k,laws_FnCompactLeft.f k l0=some true
theorem laws_FnCompactLeft.walk (P:laws_FnCompactLeft.Pure) (a0:Option Addr) (len0 cap0:Nat) (z0:List Int) (w:World) (w0:(a0=none∧len0=0∧cap0=0∧z0 = [])∨∃ x,a0=some x∧len0≤cap0∧cap0≤maxLen∧z0.length=cap0∧(∀ i,i < z0.length→w.cell? (x.add i)=some (.int .u8 (z0.getD i 0)))∧∀ n∈z0,(Lit.int .u8 n).wf=true) (y0:len0 * 1≤140737488351232) :
  Calls Try.prog 5 #[.slice a0 len0 cap0] w fun e w'=>e = .returned (.bool true)∧Below w.heap.size w w':=by
 obtain ⟨l0,rfl,hr0,hm0,hw0,hc0⟩:=ReadsInt.ofRowC w0;obtain ⟨k,h⟩:=P l0 hm0 y0 hw0;refine (laws_FnCompactLeft.calls k _ _ l0 true w (Kd.C_of_reads (d:=(0:Int)) (h1:=fun _=>rfl) hr0) hc0 h).mono ?_;rintro e w' ⟨rfl,hd⟩;exact ⟨rfl,hd⟩
end Go.Proofs.Ytkhjmhdgcmffaaa.X
namespace Go.Proofs.Ytkhjmhdgcmffaaa.XQ
open Go.RowKit Go.Proofs.Ytkhjmhdgcmffaaa.X Go.Proofs.YtkhjmhdgcmffaaaW.PrintWords Go.Proofs.YtkhjmhdgcmffaaaW.PrintLast
set_option linter.unusedVariables false
set_option linter.unusedSimpArgs false
abbrev Bt:=S34
abbrev rb (l:List Bt) (i:Int):Bt:=Qa l i
theorem rb_nat (l:List Bt) (j:Nat) (h:j < l.length):rb l (j:Int)=l[j]:=by
 unfold rb Qa
 rw [Int.toNat_natCast,List.getD_eq_getElem?_getD,List.getElem?_eq_getElem h]
 rfl
def smallBs (l:List Bt):Prop:=l.length≤2000000∧∀ b∈l,smallRs b.f5
theorem smallBs_at {l:List Bt} (h:smallBs l) (j:Nat) (hj:j < l.length):smallRs (rb l (j:Int)).f5:=by
 rw [rb_nat l j hj]
 exact h.2 _ (List.getElem_mem hj)
def fOff (b:Bt):Int:=(rr b.f5 0).f0
def lOff (b:Bt):Int:=(rr b.f5 ((b.f5.length:Int) - 1)).f0
def vB (b:Bt):Prop:=VB b.f1 b.f2 b.f3 b.f4 b.f5
theorem vB_pos {b:Bt} (h:vB b) : 1≤b.f5.length∧b.f5.length≤6:=h.2.1
theorem first_eq {b:Bt} (h:vB b):Rj.f b.f0 b.f1 b.f2 b.f3 b.f4 b.f5=some (fOff b):=by
 have:=vB_pos h
 unfold Rj.f
 rw [if_pos (show 0 < (b.f5.length:Int) by omega)]
 rfl
theorem last_eq {b:Bt} (h:vB b):Rl.f b.f0 b.f1 b.f2 b.f3 b.f4 b.f5=some (lOff b):=by
 have:=vB_pos h
 have e:wrap64 ((b.f5.length:Int) - 1)=(b.f5.length:Int) - 1:=wrap_id (by omega) (by omega)
 unfold Rl.f
 rw [e,if_pos (show 0≤(b.f5.length:Int) - 1 by omega),if_pos (show (b.f5.length:Int) - 1 < (b.f5.length:Int) by omega)]
 rfl
theorem lastS_eq {b:Bt} (h:vB b):Ru.f b.f0 b.f1 b.f2 b.f3 b.f4 b.f5=some (lOff b):=by
 have:=vB_pos h
 have e:wrap64 ((b.f5.length:Int) - 1)=(b.f5.length:Int) - 1:=wrap_id (by omega) (by omega)
 unfold Ru.f
 rw [e,if_pos (show 0≤(b.f5.length:Int) - 1 by omega),if_pos (show (b.f5.length:Int) - 1 < (b.f5.length:Int) by omega)]
 rfl
theorem RF_lt {l:List Rc} (h:RF l 0):∀ (d i:Nat),i+d+1 < l.length→(rr l (i:Int)).f0 < (rr l ((i+d+1:Nat):Int)).f0
 | 0,i,hi=>by
  have:=(h (i+1) (by omega) hi).2 (by omega)
  rw [show ((i+1:Nat):Int) - 1=(i:Int) by omega] at this
  exact this
 | d+1,i,hi=>by
  have h1:=RF_lt h d i (by omega)
  have:=(h (i+d+2) (by omega) (by omega)).2 (by omega)
  rw [show ((i+d+2:Nat):Int) - 1=((i+d+1:Nat):Int) by omega] at this
  exact Int.lt_trans h1 this
theorem fOff_le {b:Bt} (h:vB b):fOff b≤lOff b:=by
 have hp:=vB_pos h
 unfold fOff lOff
 by_cases h1:b.f5.length=1
 ·rw [h1]
  exact Int.le_refl _
 ·have:=RF_lt h.2.2.2 (b.f5.length - 2) 0 (by omega)
  rw [show ((0+(b.f5.length - 2)+1:Nat):Int)=(b.f5.length:Int) - 1 by omega] at this
  exact Int.le_of_lt this
def LF (l:List Bt) (i:Nat):Prop:=∀ j,i≤j→j < l.length→vB (rb l j)∧(0 < j→lOff (rb l ((j:Int) - 1)) < fOff (rb l j))
def VL (l:List Bt):Prop:=l.length≤8∧LF l 0
theorem LF_end {l:List Bt} {i:Nat} (h:l.length≤i):LF l i:=fun j h1 h2=>by omega
theorem LF_step {l:List Bt} {i:Nat} (h:i < l.length):LF l i↔(vB (rb l i)∧(0 < i→lOff (rb l ((i:Int) - 1)) < fOff (rb l i)))∧LF l (i+1):=by
 constructor
 ·intro hl
  exact ⟨hl i (Nat.le_refl _) h,fun j h1 h2=>hl j (by omega) h2⟩
 ·rintro ⟨h0,h1⟩ j hj1 hj2
  by_cases he:j=i
  ·subst he;exact h0
  ·exact h1 j (by omega) hj2
open Classical in
noncomputable def vl (l:List Bt):Bool:=decide (VL l)
theorem vl_iff (l:List Bt):vl l=true↔VL l:=by unfold vl;simp
theorem vl_of {b:Bool} {l:List Bt} (h:b=true↔VL l):b=vl l:=by
 rw [Bool.eq_iff_iff,h,vl_iff]
theorem vb_vB (b:Bt):vb b.f1 b.f2 b.f3 b.f4 b.f5=true↔vB b:=vb_iff _ _ _ _ _
theorem implLog_loop (l:List Bt) (hl:smallBs l):∀ (d i:Nat),l.length - i=d→i≤l.length→(∀ j,j < i→vB (rb l (j:Int)))→Evs (fun k=>Qo.l0 k l l (l.length:Int) (i:Int)) (fun b=>b=true↔LF l i):=by
 have hs:=hl.1
 intro d
 induction d with
 | zero=>
  intro i hd hi _
  refine Evs.succ ?_
  simp only [Qo.l0,if_neg (show ¬ (i:Int) < (l.length:Int) by omega)]
  exact Evs.done ⟨fun _=>LF_end (by omega),fun _=>rfl⟩
 | succ d ih=>
  intro i hd hi hv
  have hlt:i < l.length:=by omega
  have e1:wrap64 ((i:Int)+1)=((i+1:Nat):Int):=by rw [wrap_id (by omega) (by omega)];omega
  refine Evs.succ ?_
  simp only [Qo.l0,if_pos (show (i:Int) < (l.length:Int) by omega),if_pos (show (0:Int)≤(i:Int) by omega),e1]
  refine Evs.bind (Evs.of (implB (rb l i).f0 (rb l i).f1 (rb l i).f2 (rb l i).f3 (rb l i).f4 (rb l i).f5 (smallBs_at hl i hlt)) rfl) ?_
  rintro _ rfl
  by_cases hb:vB (rb l i)
  ·have hb2:=(vb_vB (rb l i)).2 hb
   simp only [if_pos hb2]
   have hv2:∀ j,j < i+1→vB (rb l (j:Int)):=fun j hj=>by
    by_cases he:j=i
    ·subst he;exact hb
    ·exact hv j (by omega)
   by_cases h0:i=0
   ·subst h0
    simp only [if_neg (show ¬ ((0:Nat):Int) > 0 by omega)]
    refine (ih 1 (by omega) (by omega) hv2).mono fun b hb3=>?_
    rw [hb3,LF_step hlt]
    exact ⟨fun h=>⟨⟨hb,fun h=>absurd h (by omega)⟩,h⟩,fun h=>h.2⟩
   ·have e2:wrap64 ((i:Int) - 1)=(i:Int) - 1:=wrap_id (by omega) (by omega)
    have hp:vB (rb l ((i:Int) - 1)):=by have:=hv (i - 1) (by omega);rwa [show ((i - 1:Nat):Int)=(i:Int) - 1 by omega] at this
    have f1:=last_eq hp
    have f2:=first_eq hb
    simp only [if_pos (show (i:Int) > 0 by omega),e2,if_pos (show 0≤(i:Int) - 1 by omega),if_pos (show (i:Int) - 1 < (l.length:Int) by omega)]
    rw [show (Qa l ((i:Int) - 1))=rb l ((i:Int) - 1) from rfl,show (Qa l (i:Int))=rb l (i:Int) from rfl,f1,f2]
    simp only [bsome]
    by_cases hc:lOff (rb l ((i:Int) - 1)) ≥ fOff (rb l i)
    ·simp only [if_pos hc]
     refine Evs.done ?_
     rw [LF_step hlt]
     simp only [Bool.false_eq_true,false_iff]
     intro h
     have:=h.1.2 (by omega)
     omega
    ·simp only [if_neg hc]
     refine (ih (i+1) (by omega) (by omega) hv2).mono fun b hb3=>?_
     rw [hb3,LF_step hlt]
     exact ⟨fun h=>⟨⟨hb,fun _=>by omega⟩,h⟩,fun h=>h.2⟩
  ·have hb2:¬ vb (rb l i).f1 (rb l i).f2 (rb l i).f3 (rb l i).f4 (rb l i).f5=true:=fun h=>hb ((vb_vB (rb l i)).1 h)
   simp only [if_neg hb2]
   refine Evs.done ?_
   rw [LF_step hlt]
   simp only [Bool.false_eq_true,false_iff]
   exact fun h=>hb h.1.1
theorem implLog (l:List Bt) (hl:smallBs l):Ev (fun k=>Qo.f k l) (vl l):=by
 have hs:=hl.1
 unfold Qo.f
 by_cases h:(l.length:Int) > 8
 ·simp only [if_pos h]
  have:vl l=false:=by rw [← Bool.not_eq_true,vl_iff];exact fun h2=>by have:=h2.1;omega
  rw [this]
  exact ev_some _
 ·simp only [if_neg h]
  obtain ⟨b,h1,h2⟩:=implLog_loop l hl l.length 0 (by omega) (by omega) (fun j hj=>by omega)
  have:b=vl l:=vl_of (h2.trans ⟨fun h3=>⟨by omega,h3⟩,fun h3=>h3.2⟩)
  rw [← this]
  exact h1
theorem specLog_loop (l:List Bt) (hl:smallBs l):∀ (d i:Nat),l.length - i=d→i≤l.length→(∀ j,j < i→vB (rb l (j:Int)))→Evs (fun k=>Qn.l0 k l (i:Int)) (fun b=>b=true↔LF l i∧l.length≤8):=by
 have hs:=hl.1
 intro d
 induction d with
 | zero=>
  intro i hd hi _
  refine Evs.succ ?_
  simp only [Qn.l0,if_neg (show ¬ (i:Int) < (l.length:Int) by omega)]
  refine Evs.done ?_
  rw [decide_eq_true_eq]
  exact ⟨fun h=>⟨LF_end (by omega),by omega⟩,fun h=>by omega⟩
 | succ d ih=>
  intro i hd hi hv
  have hlt:i < l.length:=by omega
  have e1:wrap64 ((i:Int)+1)=((i+1:Nat):Int):=by rw [wrap_id (by omega) (by omega)];omega
  refine Evs.succ ?_
  simp only [Qn.l0,if_pos (show (i:Int) < (l.length:Int) by omega),if_pos (show (0:Int)≤(i:Int) by omega),e1]
  refine Evs.bind (Evs.of (specB (rb l i).f0 (rb l i).f1 (rb l i).f2 (rb l i).f3 (rb l i).f4 (rb l i).f5 (smallBs_at hl i hlt)) rfl) ?_
  rintro _ rfl
  by_cases hb:vB (rb l i)
  ·have hb2:=(vb_vB (rb l i)).2 hb
   simp only [if_pos hb2]
   have hv2:∀ j,j < i+1→vB (rb l (j:Int)):=fun j hj=>by
    by_cases he:j=i
    ·subst he;exact hb
    ·exact hv j (by omega)
   by_cases h0:i=0
   ·subst h0
    simp only [if_neg (show ¬ ((0:Nat):Int) > 0 by omega)]
    refine (ih 1 (by omega) (by omega) hv2).mono fun b hb3=>?_
    rw [hb3,LF_step hlt]
    exact ⟨fun h=>⟨⟨⟨hb,fun h=>absurd h (by omega)⟩,h.1⟩,h.2⟩,fun h=>⟨h.1.2,h.2⟩⟩
   ·have e2:wrap64 ((i:Int) - 1)=(i:Int) - 1:=wrap_id (by omega) (by omega)
    have hp:vB (rb l ((i:Int) - 1)):=by have:=hv (i - 1) (by omega);rwa [show ((i - 1:Nat):Int)=(i:Int) - 1 by omega] at this
    have f1:=lastS_eq hp
    have hpos:=(vB_pos hb).1
    simp only [if_pos (show (i:Int) > 0 by omega),e2,if_pos (show 0≤(i:Int) - 1 by omega),if_pos (show (i:Int) - 1 < (l.length:Int) by omega)]
    rw [show (Qa l ((i:Int) - 1))=rb l ((i:Int) - 1) from rfl,show (Qa l (i:Int))=rb l (i:Int) from rfl,f1]
    simp only [bsome,if_pos (show 0 < ((rb l (i:Int)).f5.length:Int) by omega)]
    by_cases hc:lOff (rb l ((i:Int) - 1)) ≥ fOff (rb l i)
    ·simp only [if_pos (show lOff (rb l ((i:Int) - 1)) ≥ (Qb (rb l (i:Int)).f5 0).f0 from hc)]
     refine Evs.done ?_
     rw [LF_step hlt]
     simp only [Bool.false_eq_true,false_iff]
     intro h
     have:=h.1.1.2 (by omega)
     omega
    ·simp only [if_neg (show ¬ lOff (rb l ((i:Int) - 1)) ≥ (Qb (rb l (i:Int)).f5 0).f0 from hc)]
     refine (ih (i+1) (by omega) (by omega) hv2).mono fun b hb3=>?_
     rw [hb3,LF_step hlt]
     exact ⟨fun h=>⟨⟨⟨hb,fun _=>by omega⟩,h.1⟩,h.2⟩,fun h=>⟨h.1.2,h.2⟩⟩
  ·have hb2:¬ vb (rb l i).f1 (rb l i).f2 (rb l i).f3 (rb l i).f4 (rb l i).f5=true:=fun h=>hb ((vb_vB (rb l i)).1 h)
   simp only [if_neg hb2]
   refine Evs.done ?_
   rw [LF_step hlt]
   simp only [Bool.false_eq_true,false_iff]
   exact fun h=>hb h.1.1.1
theorem specLog (l:List Bt) (hl:smallBs l):Ev (fun k=>Qn.f k l) (vl l):=by
 unfold Qn.f
 obtain ⟨b,h1,h2⟩:=specLog_loop l hl l.length 0 (by omega) (by omega) (fun j hj=>by omega)
 have:b=vl l:=vl_of (h2.trans ⟨fun h3=>⟨h3.2,h3.1⟩,fun h3=>⟨h3.2,h3.1⟩⟩)
 rw [← this]
 exact h1
theorem VL_at {l:List Bt} (h:VL l) (j:Nat) (hj:j < l.length):vB (rb l (j:Int)):=(h.2 j (Nat.zero_le _) hj).1
theorem VL_lt {l:List Bt} (h:VL l):∀ (d i:Nat),i+d+1 < l.length→fOff (rb l (i:Int)) < fOff (rb l ((i+d+1:Nat):Int))
 | 0,i,hi=>by
  have h1:=(h.2 (i+1) (Nat.zero_le _) hi).2 (by omega)
  rw [show ((i+1:Nat):Int) - 1=(i:Int) by omega] at h1
  have:=fOff_le (VL_at h i (by omega))
  exact Int.lt_of_le_of_lt this h1
 | d+1,i,hi=>by
  have h0:=VL_lt h d i (by omega)
  have h1:=(h.2 (i+d+2) (Nat.zero_le _) (by omega)).2 (by omega)
  rw [show ((i+d+2:Nat):Int) - 1=((i+d+1:Nat):Int) by omega] at h1
  have:=fOff_le (VL_at h (i+d+1) (by omega))
  exact Int.lt_trans h0 (Int.lt_of_le_of_lt this h1)
theorem VL_lt' {l:List Bt} (h:VL l) {i j:Nat} (hij:i < j) (hj:j < l.length):fOff (rb l (i:Int)) < fOff (rb l (j:Int)):=by
 have:=VL_lt h (j - i - 1) i (by omega)
 rwa [show i+(j - i - 1)+1=j by omega] at this
end Go.Proofs.Ytkhjmhdgcmffaaa.XQ
namespace Go.Proofs.Ytkhjmhdgcmffaaa.XQ
open Go.RowKit Go.Proofs.Ytkhjmhdgcmffaaa.X Go.Proofs.YtkhjmhdgcmffaaaW.PrintWords Go.Proofs.YtkhjmhdgcmffaaaW.PrintLast
set_option linter.unusedVariables false
set_option linter.unusedSimpArgs false
def drawnBs (n:Nat) (l:List Bt):Prop:=l.length≤n∧∀ b∈l,drawnR 5 b.f5
theorem drawnBs_add {n:Nat} {l:List Bt} (h:drawnBs n l) {b:Bt} (hb:drawnR 5 b.f5):drawnBs (n+1) (l ++ [b]):=by
 refine ⟨by have:=h.1;simp;omega,fun x hx=>?_⟩
 rcases List.mem_append.1 hx with hx|hx
 ·exact h.2 x hx
 ·rw [List.mem_singleton.1 hx];exact hb
theorem drawnBs_mono {n m:Nat} {l:List Bt} (h:drawnBs n l) (hm:n≤m):drawnBs m l:=⟨by have:=h.1;omega,h.2⟩
theorem drawnBs_small {l:List Bt} (h:drawnBs 10 l):smallBs l:=⟨by have:=h.1;omega,fun b hb=>drawnR_small (by omega) (h.2 b hb)⟩
theorem drawnBs_set {n:Nat} {l:List Bt} (h:drawnBs n l) (i:Nat) {b:Bt} (hb:drawnR 5 b.f5):drawnBs n (l.set i b):=by
 refine ⟨by rw [List.length_set];exact h.1,fun x hx=>?_⟩
 rcases List.mem_or_eq_of_mem_set hx with hx|hx
 ·exact h.2 x hx
 ·rw [hx];exact hb
theorem lim3 {n c:Nat} (h:n≤10) (hc : 2000 < c):n < c:=by omega
theorem log_end (bs:List Int) (hb:Bytes bs) (hl:bs.length≤2000) (l:List Bt) (n o i p:Int) (hn:n≤9) (hi:¬ i < n) (hdr:drawnBs 9 l) (hle:n≤l.length) (h0 : 0≤p) (h1:p≤900000000) :
  Evs (fun k=>Qg.l0 k l n o i bs p) (fun r=>drawnBs 10 r.1∧0≤r.2∧r.2≤950000000):=by
 refine Evs.succ ?_
 simp only [Qg.l0,if_neg hi]
 by_cases h1n:n > 1
 ·simp only [if_pos h1n]
  refine Evs.bind (pick_evs bs p 30 hb hl h0 (by omega) (by omega)) ?_
  rintro ⟨u,_⟩ ⟨u0,u1,rfl⟩
  by_cases hu:u=0
  ·simp only [if_pos hu,if_pos (show 0 < (l.length:Int) by omega),if_pos (show 1 < (l.length:Int) by omega)]
   refine Evs.done ⟨drawnBs_set (drawnBs_mono hdr (by omega)) _ ?_,by dsimp only;omega,by dsimp only;omega⟩
   show drawnR 5 (rb l ((0:Nat):Int)).f5
   rw [rb_nat l 0 (by omega)]
   exact hdr.2 _ (List.getElem_mem (by omega))
  ·simp only [if_neg hu]
   exact Evs.done ⟨drawnBs_mono hdr (by omega),by dsimp only;omega,by dsimp only;omega⟩
 ·simp only [if_neg h1n]
  exact Evs.done ⟨drawnBs_mono hdr (by omega),by dsimp only;omega,by dsimp only;omega⟩
theorem log_loop (bs:List Int) (hb:Bytes bs) (hl:bs.length≤2000) (n:Int) (hn:n≤9):∀ (d:Nat) (l:List Bt) (o i p:Int),n - i≤d→0≤i→i≤max n 0→drawnBs i.toNat l→(l.length:Int)=i→0≤p→p+2000 * d≤400000000 →
  Evs (fun k=>Qg.l0 k l n o i bs p) (fun r=>drawnBs 10 r.1∧0≤r.2∧r.2≤950000000):=by
 intro d
 induction d with
 | zero=>
  intro l o i p hd hi hin hdr hle h0 h1
  exact log_end bs hb hl l n o i p hn (by omega) (drawnBs_mono hdr (by omega)) (by omega) h0 (by omega)
 | succ d ih=>
  intro l o i p hd hi hin hdr hle h0 h1
  by_cases hlt:i < n
  ·have e1:wrap64 (i+1)=i+1:=wrap_id (by omega) (by omega)
   have hlim:l.length < 2513169434916:=lim3 (by omega) (by omega)
   refine Evs.succ ?_
   simp only [Qg.l0,if_pos hlt]
   refine Evs.bind (batch_evs bs hb hl p o h0 (by omega)) ?_
   rintro ⟨a0,a1,a2,a3,a4,rs,q⟩ ⟨hd5,hrp,q0,q1,-⟩
   dsimp only at hd5 hrp q0 q1 ⊢
   have hlen5:=hd5.1
   refine Evs.bind (pick_evs bs q 20 hb hl (by omega) (by omega) (by omega)) ?_
   rintro ⟨u,_⟩ ⟨u0,u1,rfl⟩
   have main:∀ c:Bool,Evs (fun k=>Qg.j2 k l n o i c bs (q+1) a0 a1 a2 a3 a4 rs) (fun r=>drawnBs 10 r.1∧0≤r.2∧r.2≤950000000):=by
    intro c
    refine Evs.succ ?_
    cases c with
    | true=>
     simp only [Qg.j2,if_true]
     refine Evs.bind (recs_evs bs hb hl (q+1) o 2 (by omega) (by omega) (by omega) (by omega)) ?_
     rintro ⟨ss,t⟩ ⟨hd2,hsp,t0,t1⟩
     dsimp only at hd2 hsp t0 t1 ⊢
     have hlen2:=hd2.1
     have e2:wrap64 ((ss.length:Int) - 1)=(ss.length:Int) - 1:=wrap_id (by omega) (by omega)
     simp only [if_pos hlim,e2,if_pos (show 0≤(ss.length:Int) - 1 by omega),if_pos (show (ss.length:Int) - 1 < (ss.length:Int) by omega)]
     refine Evs.bind (pick_evs bs t 4 hb hl (by omega) (by omega) (by omega)) ?_
     rintro ⟨v,_⟩ ⟨v0,v1,rfl⟩
     simp only [e1]
     refine ih _ _ (i+1) (t+1) (by omega) (by omega) (by omega) ?_ (by simp;omega) (by omega) (by omega)
     rw [show (i+1).toNat=i.toNat+1 by omega]
     exact drawnBs_add hdr (drawnR_mono hd2 (by omega))
    | false=>
     have e2:wrap64 ((rs.length:Int) - 1)=(rs.length:Int) - 1:=wrap_id (by omega) (by omega)
     simp only [Qg.j2,Bool.false_eq_true,if_false,if_pos hlim,e2,if_pos (show 0≤(rs.length:Int) - 1 by omega),if_pos (show (rs.length:Int) - 1 < (rs.length:Int) by omega)]
     refine Evs.bind (pick_evs bs (q+1) 4 hb hl (by omega) (by omega) (by omega)) ?_
     rintro ⟨v,_⟩ ⟨v0,v1,rfl⟩
     simp only [e1]
     refine ih _ _ (i+1) (q+1+1) (by omega) (by omega) (by omega) ?_ (by simp;omega) (by omega) (by omega)
     rw [show (i+1).toNat=i.toNat+1 by omega]
     exact drawnBs_add hdr hd5
   by_cases hu:u > 0
   ·simp only [if_pos hu]
    obtain ⟨b,hb2⟩:∃ b,Ev (fun k=>Qm.f k a0 a1 a2 a3 a4 rs) b:=⟨_,specB a0 a1 a2 a3 a4 rs (drawnR_small (by omega) hd5)⟩
    refine Evs.bind (Evs.of (Q:=fun x=>x=b) hb2 rfl) ?_
    rintro _ rfl
    exact main _
   ·simp only [if_neg hu]
    exact main _
  ·exact log_end bs hb hl l n o i p hn hlt (drawnBs_mono hdr (by omega)) (by omega) h0 (by omega)
theorem log_evs' (bs:List Int) (hb:Bytes bs) (hl:bs.length≤2000):Evs (fun k=>Qg.f k bs 0) (fun r=>drawnBs 10 r.1∧0≤r.2∧r.2≤950000000):=by
 have main:∀ (n p:Int),n≤9→0≤p→p≤100→Evs (fun k=>Qg.j0 k [] n bs p) (fun r=>drawnBs 10 r.1∧0≤r.2∧r.2≤950000000):=by
  intro n p hn h0 h1
  refine Evs.succ ?_
  simp only [Qg.j0]
  refine Evs.bind (pick_evs bs p 10 hb hl h0 (by omega) (by omega)) ?_
  rintro ⟨u,_⟩ ⟨u0,u1,rfl⟩
  exact log_loop bs hb hl n hn 10 [] u 0 (p+1) (by omega) (by omega) (by omega) ⟨by simp,fun b hb=>by cases hb⟩ (by simp) (by omega) (by omega)
 unfold Qg.f
 simp only [bsome]
 refine Evs.bind (pick_evs bs 0 5 hb hl (by omega) (by omega) (by omega)) ?_
 rintro ⟨u,_⟩ ⟨u0,u1,rfl⟩
 refine Evs.bind (pick_evs bs (0+1) 16 hb hl (by omega) (by omega) (by omega)) ?_
 rintro ⟨v,_⟩ ⟨v0,v1,rfl⟩
 by_cases hv:v=0
 ·simp only [if_pos hv]
  refine Evs.bind (pick_evs bs (0+1+1) 3 hb hl (by omega) (by omega) (by omega)) ?_
  rintro ⟨x,_⟩ ⟨x0,x1,rfl⟩
  simp only [if_pos x0,if_pos (show x < (([0,8,9]:List Int).length:Int) from x1)]
  refine main _ _ ?_ (by omega) (by omega)
  have:x=0∨x=1∨x=2:=by omega
  rcases this with rfl|rfl|rfl <;> decide
 ·simp only [if_neg hv]
  rw [show wrap64 (1+u)=1+u from wrap_id (by omega) (by omega)]
  exact main _ _ (by omega) (by omega) (by omega)
end Go.Proofs.Ytkhjmhdgcmffaaa.XQ
namespace Go.Proofs.Ytkhjmhdgcmffaaa.X
open Go.RowKit Go.Proofs.YtkhjmhdgcmffaaaW.PrintWords Go.Proofs.YtkhjmhdgcmffaaaW.PrintLast Go.Proofs.YtkhjmhdgcmffaaaW.PrintMore
attribute [local go_sem] max2_int max_two
set_option linter.unusedVariables false
set_option linter.unusedSimpArgs false
section
open Go.Shelf
attribute [local go_sem] Oper.semAt_some
@[local go_sem] theorem run_store_func {P:Program} {w:World} {a:Addr} {m:Mode} (f:Fn) (b c:Array Value):(store a (.func f b c) m).run P w=stored P w a (.func f b c) m:=run_store P w a _ m rfl
def stayB (l:List S34) (gone:Bool) (x:Nat×Nat):Bool:=mkOf l x||((rcOf l x).f2&&((lastOff l (pts l) (hexOf (rcOf l x).f3)==(rcOf l x).f0)&&((rcOf l x).f4||gone)))
end
end Go.Proofs.Ytkhjmhdgcmffaaa.X
