/- The law FnExactTermsPut holds (part 3 of 3; merged by pack2.py). -/
import Derived.Deep.Slices
import Derived.ChangeArms
import Derived.ProofKit
import Derived.OpenShut
import Derived.ShutString
import Derived.ChangeOld
import Derived.SizedLaws
import Derived.Test.YtelicmnacflblaaFnExactTermsPutK1
set_option maxRecDepth 1000000
open List (setIfInBounds_toArray set_cons_zero set_cons_succ map_toArray map_cons map_nil length_drop length_take)
namespace Go.Proofs.Ytelicmnacflblaa.T
open Go.RowKit Go.Proofs.YtelicmnacflblaaW.PrintWords Go.Proofs.YtelicmnacflblaaW.PrintLast Go.Proofs.YtelicmnacflblaaW.PrintMore

set_option linter.unusedVariables false
set_option linter.unusedSimpArgs false
mutual
def laws_FnExactTermsPut.j0:Nat→List (S24)→List (S30)→Bool→List (S30)→List (S30)→Bool→Bool→Int→Int→Option (Bool)
 | 0,_,_,_,_,_,_,_,_,_=>none
 | k+1,x0,x6,x7,x8,x9,x10,x46,x164000,x164001=>if x46=true then (some false) else ((Qf.f k x0).bind fun t184=>((Qd.f k x8 t184).bind fun t187=>(if t187=true then ((Qe.f k x8 1).bind fun bt188=>(if bt188.1 < 0 then (laws_FnExactTermsPut.j1 k x0 x6 x7 x9 true x164000 x164001) else ((Qd.f k x9 x6).bind fun t190=>(if t190=true then (laws_FnExactTermsPut.j1 k x0 x6 x7 x9 (x10 != x7) x164000 x164001) else (laws_FnExactTermsPut.j1 k x0 x6 x7 x9 true x164000 x164001))))) else (some false))))
def laws_FnExactTermsPut.j1:Nat→List (S24)→List (S30)→Bool→List (S30)→Bool→Int→Int→Option (Bool)
 | 0,_,_,_,_,_,_,_=>none
 | k+1,x0,x6,x7,x9,x67,x164000,x164001=>if x67=true then (some false) else ((Qe.f k x9 1).bind fun bt191=>((Qg.f k bt191.2 1).bind fun t193=>(if t193 < 0 then (some false) else (if t193=bt191.1 then ((Qf.f k x0).bind fun t194=>((Qi.f x164000 x164001).bind fun bt197=>((Qh.f k t194 bt197.1 bt197.2).bind fun bt199=>((Qd.f k bt199.1 x6).bind fun t203=>(if t203=true then (laws_FnExactTermsPut.j2 k bt191.2 bt191.1 (bt199.2 != x7)) else (laws_FnExactTermsPut.j2 k bt191.2 bt191.1 true)))))) else (some false)))))
def laws_FnExactTermsPut.j2:Nat→List (S30)→Int→Bool→Option (Bool)
 | 0,_,_,_=>none
 | k+1,x9,x12,x95=>if x95=true then (some false) else ((Qg.f k x9 1).bind fun t204=>(if t204 < 0 then (some false) else (if t204=x12 then (some true) else (some false))))
end
def laws_FnExactTermsPut.f (k:Nat) (l0:List (S24)) (a1_0:Int) (a1_1:Int):Option (Bool):=(Qn.f l0 1048576).bind fun t164=>(if t164 < 0 then (some true) else ((Qf.f k l0).bind fun t165=>((Qi.f a1_0 a1_1).bind fun bt168=>((Qo.f k t165 bt168.1 bt168.2).bind fun bt170=>((Qf.f k l0).bind fun t174=>((Qi.f a1_0 a1_1).bind fun bt177=>((Qh.f k t174 bt177.1 bt177.2).bind fun bt179=>((Qd.f k bt179.1 bt170.1).bind fun t183=>(if t183=true then (laws_FnExactTermsPut.j0 k l0 bt170.1 bt170.2 t174 bt179.1 bt179.2 (bt179.2 != bt170.2) a1_0 a1_1) else (laws_FnExactTermsPut.j0 k l0 bt170.1 bt170.2 t174 bt179.1 bt179.2 true a1_0 a1_1))))))))))
def laws_FnExactTermsPut.T5:Bool×List (List Nat×List Nat):=(true,[([],[]),([0],[0]),([],[]),([2,1],[2]),([1,3,3],[1,3]),([4],[4]),([5],[5]),([5],[5]),([6,4,0,1,2,3,4,5,6],[6]),([7,8,0,1,2,3,4,5,6,7,8],[7])])
def laws_FnExactTermsPut.B5:List Nat:=[0,1,0,7,15,31,63,63,127,511]
theorem laws_FnExactTermsPut.tab5:rtab .any (opsOf Try.f3 5)=laws_FnExactTermsPut.T5:=by kernel_rfl
theorem laws_FnExactTermsPut.bits5:waitsOk laws_FnExactTermsPut.T5.2 laws_FnExactTermsPut.B5=true:=by kernel_rfl
def laws_FnExactTermsPut.T24:Bool×List (List Nat×List Nat):=(true,[([],[]),([0],[0]),([],[]),([2,1],[2]),([1,3,3],[1,3]),([4],[4]),([5],[5]),([5],[5]),([6,4,0,1,2,3,4,5,6],[6]),([7,8,0,1,2,3,4,5,6,7,8],[7])])
def laws_FnExactTermsPut.B24:List Nat:=[0,1,0,7,15,31,63,63,127,511]
theorem laws_FnExactTermsPut.tab24:rtab .any (opsOf Try.f3 24)=laws_FnExactTermsPut.T24:=by kernel_rfl
theorem laws_FnExactTermsPut.bits24:waitsOk laws_FnExactTermsPut.T24.2 laws_FnExactTermsPut.B24=true:=by kernel_rfl
set_option maxHeartbeats 8000000 in
theorem laws_FnExactTermsPut.calls (k:Nat) (A0:Option Addr) (c0:Nat) (l0:List (S24)) (a6:Int) (a7:Int) (r:Bool) (w:World) (o9:Kd.C k24 w A0 l0.length l0) (p0:l0.length≤c0) (h:laws_FnExactTermsPut.f k l0 a6 a7=some r) :
  Calls Try.prog 3 #[.slice A0 l0.length c0,.agg #[.int .i64 a6,.int .i64 a7]] w fun e w'=>e = .returned (.bool r)∧Below w.heap.size w w':=by
 have hu24:=Try.underlying24;have j4:=zzm o9;have j5:=zzm p0;clear o9 p0;have HB:=zzm (Below.refl w.heap.size w);have H:((Qn.f l0 1048576).bind fun g3=>(if g3 < 0 then (some true) else ((Qf.f k l0).bind fun h3=>((Qi.f a6 a7).bind fun m9=>((Qo.f k h3 m9.1 m9.2).bind fun d7=>((Qf.f k l0).bind fun b3=>((Qi.f a6 a7).bind fun e6=>((Qh.f k b3 e6.1 e6.2).bind fun b4=>((Qd.f k b4.1 d7.1).bind fun e4=>(if e4=true then (laws_FnExactTermsPut.j0 k l0 d7.1 d7.2 b3 b4.1 b4.2 (b4.2 != d7.2) a6 a7) else (laws_FnExactTermsPut.j0 k l0 d7.1 d7.2 b3 b4.1 b4.2 true a6 a7)))))))))))=some r:=h;clear h;obtain ⟨g3,A3,H⟩:=zzG H;by_cases c4:g3 < 0
 ·
  rw [if_pos c4] at H;have k8:decide (g3 < 0)=true:=decide_eq_true c4;clear c4;obtain rfl:=Option.some.inj H;go_enter Try.func3,Try.ntmps3;go_wp2_with (first|((with_reducible refine gate_dst (N:=3) rfl ?_);refine box_event ?hg (N:=3) ?hd (cs:=#[.int .i64 a6,.int .i64 a7]) (t:=24) ?hr ?_;(case hd=>rfl);(case hg=>rfl);(case hr=>first|(go_simp;done)|(go_simp;rfl));intro b0 hg w5 hbox hb;have a3:=zzm (zzp zzh1 hb);have a4:=zzm (hbox);have a5:=zzm ((by rw [hg];exact (zzo zzh1):w.heap.size≤b0));have a8:=zzm ((by rw [hg];exact (zzo zzh1):w.heap.size≤b0));clear HB;have HB:=a3;have a0:=a4;have o5:=a5;have g8:=a8;clear a3 a4 a5 a8 hb hbox hg)|((with_reducible refine gate_callee (f:=4) rfl ?_);refine goesL_ (some 18) rfl rfl Try.func4 (by kernel_rfl) rfl #[.slice A0 l0.length c0,.int .i64 1048576] rfl zzM2 ?_;(with_reducible refine (Qn.calls _ _ l0 1048576 g3 _ ?side1 ?side2 A3.out).mono ?_);(case side1=>exact zzcb j4 HB);(case side2=>exact j5.out);rintro e w' ⟨rfl,⟨nd,rfl⟩⟩;refine ⟨_,rfl,?_⟩));go_ret;exact ⟨zzR,zzh3⟩
 ·
  rw [if_neg c4] at H;have k8:decide (g3 < 0)=false:=decide_eq_false c4;clear c4;obtain ⟨h3,A6,H⟩:=zzG H;replace H:=zzH H;obtain ⟨⟨k9,l1⟩,p1,H⟩:=H;replace H:((Qo.f k h3 k9 l1).bind fun d7=>((Qf.f k l0).bind fun b3=>((Qi.f a6 a7).bind fun e6=>((Qh.f k b3 e6.1 e6.2).bind fun b4=>((Qd.f k b4.1 d7.1).bind fun e4=>(if e4=true then (laws_FnExactTermsPut.j0 k l0 d7.1 d7.2 b3 b4.1 b4.2 (b4.2 != d7.2) a6 a7) else (laws_FnExactTermsPut.j0 k l0 d7.1 d7.2 b3 b4.1 b4.2 true a6 a7)))))))=some r:=H;have A7:=zzm p1;clear p1;replace H:=zzH H;obtain ⟨⟨b6,d3⟩,p3,H⟩:=H;replace H:((Qf.f k l0).bind fun b3=>((Qi.f a6 a7).bind fun e6=>((Qh.f k b3 e6.1 e6.2).bind fun b4=>((Qd.f k b4.1 b6).bind fun e4=>(if e4=true then (laws_FnExactTermsPut.j0 k l0 b6 d3 b3 b4.1 b4.2 (b4.2 != d3) a6 a7) else (laws_FnExactTermsPut.j0 k l0 b6 d3 b3 b4.1 b4.2 true a6 a7))))))=some r:=H;have A8:=zzm p3;clear p3;obtain ⟨b3,A9,H⟩:=zzG H;replace H:=zzH H;obtain ⟨⟨l2,l3⟩,n5,H⟩:=H;replace H:((Qh.f k b3 l2 l3).bind fun b4=>((Qd.f k b4.1 b6).bind fun e4=>(if e4=true then (laws_FnExactTermsPut.j0 k l0 b6 d3 b3 b4.1 b4.2 (b4.2 != d3) a6 a7) else (laws_FnExactTermsPut.j0 k l0 b6 d3 b3 b4.1 b4.2 true a6 a7))))=some r:=H;have s0:=zzm n5;clear n5;replace H:=zzH H;obtain ⟨⟨a9,g0⟩,n6,H⟩:=H;replace H:((Qd.f k a9 b6).bind fun e4=>(if e4=true then (laws_FnExactTermsPut.j0 k l0 b6 d3 b3 a9 g0 (g0 != d3) a6 a7) else (laws_FnExactTermsPut.j0 k l0 b6 d3 b3 a9 g0 true a6 a7)))=some r:=H;have s1:=zzm n6;clear n6;have m1:=zzm H;clear H;go_enter Try.func3,Try.ntmps3;try go_wp2_with (first|((with_reducible refine gate_dst (N:=3) rfl ?_);refine box_event ?hg (N:=3) ?hd (cs:=#[.int .i64 a6,.int .i64 a7]) (t:=24) ?hr ?_;(case hd=>rfl);(case hg=>rfl);(case hr=>first|(go_simp;done)|(go_simp;rfl));intro b0 hg k2 hbox hb;have a3:=zzm (zzp zzh1 hb);have a4:=zzm (hbox);have a5:=zzm ((by rw [hg];exact (zzo zzh1):w.heap.size≤b0));have a8:=zzm ((by rw [hg];exact (zzo zzh1):w.heap.size≤b0));clear HB;have HB:=a3;have a0:=a4;have o5:=a5;have g8:=a8;clear a3 a4 a5 a8 hb hbox hg)|((with_reducible refine gate_callee (f:=4) rfl ?_);refine goesL_ (some 18) rfl rfl Try.func4 (by kernel_rfl) rfl #[.slice A0 l0.length c0,.int .i64 1048576] rfl zzM2 ?_;(with_reducible refine (Qn.calls _ _ l0 1048576 g3 _ ?side1 ?side2 A3.out).mono ?_);(case side1=>exact zzcb j4 HB);(case side2=>exact j5.out);rintro e w' ⟨rfl,⟨nd,rfl⟩⟩;refine ⟨_,rfl,?_⟩))
  (try (rw [drewN_self k2];generalize hq_:World.drewN k2 _=k2;have a3:Aside0 (k2.heap[b0]? = some (.cells #[.int .i64 a6,.int .i64 a7] 24 (0,0))):=⟨by rw [← hq_];exact (zzE a0.out)⟩;have a4:Aside0 (Below w.heap.size w k2):=⟨by rw [← hq_];exact zzh2⟩;clear a0 HB hq_;have a0:=a3;have HB:=a4;clear a3 a4));have a3:=zzm (zzg a0.out);have a4:=zzm (zzc HB.out);clear a0 HB;have a0:=a3;have HB:=a4;clear a3 a4;refine start_ (n:=10) (S:=fun w'=>w'.cell? ⟨b0,0,none⟩=some (.int .i64 a6)∧w'.cell? ⟨b0,1,none⟩=some (.int .i64 a7)) (ds:=[]) (zzB 10 0) (by kernel_rfl) rfl rfl ⟨(zzk a0.out 0).trans rfl,(zzk a0.out 1).trans rfl⟩ (fun d9=>?_);refine with_tabW laws_FnExactTermsPut.tab5 laws_FnExactTermsPut.bits5 (fun d6 n7=>?_);generalize k2.drew=v6 at a0 HB d9 ⊢;refine zzP 0 22 10 1 d6 ?_
  refine zzT 2 24 10 5 d6 n7 d9 ?_
  refine one_ (i:=1) (N:=some 23) (zzB 10 7) rfl rfl (one_of d6.out (by kernel_rfl)) (by decide) (fun K hK=>?_);refine goes_ Try.func6 (by kernel_rfl) rfl #[.slice A0 l0.length c0] (by rfl) rfl rfl zzM2 ?_;with_reducible refine (Qf.calls k _ _ l0 h3 _ ?side1 ?side2 A6.out).mono ?_
  (case side1=>exact zzcb j4 HB)
  (case side2=>exact j5.out);rintro e v7 ⟨t0,rfl,ho0,hb⟩;refine ⟨_,rfl,?_⟩;have a3:=zzm (Kd.R_lower ho0 (zzo zzh2));have a4:=zzm (zzh (g:=b0) (o:=.cells #[.int .i64 a6,.int .i64 a7] 24 (0,0)) (zzE a0.out) hb);have a5:=zzm (zzp zzh2 hb);clear a0 HB;have b5:=a3;have a0:=a4;have HB:=a5;clear a3 a4 a5
  (try clear hb)
  (try clear hb2)
  (try clear hk)
  (try clear hi)
  (try clear ho0);refine hK.out _ _ ⟨(zzk a0.out 0).trans rfl,(zzk a0.out 1).trans rfl⟩ (fun d9=>?_);clear hK K;refine zzO 23 ?_
  refine one_ (i:=3) (N:=some 25) (zzB 10 15) rfl rfl (one_of d6.out (by kernel_rfl)) (by decide) (fun K hK=>?_);refine goes_ Try.func7 (by kernel_rfl) rfl #[.agg #[.int .i64 a6,.int .i64 a7]] (by rfl) rfl rfl zzM2 ?_;with_reducible refine (Qi.calls a6 a7 k9 l1 _ A7.out).mono ?_
  rintro e v8 ⟨rfl,hb⟩;refine ⟨_,rfl,?_⟩;have a3:=zzm (Kd.R_below (by (with_reducible repeat (first|apply Kd.R_alloc|apply Kd.R_drewN|apply Kd.R_drew));exact b5.out) hb);have a4:=zzm (zzh (g:=b0) (o:=.cells #[.int .i64 a6,.int .i64 a7] 24 (0,0)) (zzE a0.out) hb);have a5:=zzm (zzp zzh2 hb);clear b5 a0 HB;have b5:=a3;have a0:=a4;have HB:=a5;clear a3 a4 a5
  (try clear hb)
  (try clear hb2)
  (try clear hk)
  (try clear hi);obtain ⟨p9,q0,eo17⟩:=Kd.R_slice b5.out
  (first|subst eo17|(injection eo17 with f1_ f2_ f3_;have f4_:=f1_.symm;have f5_:=f3_.symm;clear f1_ f2_ f3_;subst f4_;subst f5_));refine hK.out _ _ ⟨(zzk a0.out 0).trans rfl,(zzk a0.out 1).trans rfl⟩ (fun d9=>?_);clear hK K;refine zzO 25 ?_
  refine one_ (i:=4) (N:=some 26) (zzB 10 31) rfl rfl (one_of d6.out (by kernel_rfl)) (by decide) (fun K hK=>?_);refine goes_ Try.func5 (by kernel_rfl) rfl #[.slice p9 h3.length q0,.agg #[.int .i64 k9,.int .i64 l1]] (by rfl) rfl rfl zzM2 ?_;with_reducible refine (Qo.calls k _ _ h3 k9 l1 b6 d3 _ ?side1 ?side2 A8.out).mono ?_
  (case side1=>repeat (first|exact (Kd.R_reads' b5.out).2.2|(with_reducible refine Kd.C_alloc ?_ _)|(with_reducible refine Kd.C_drewN ?_ _)|(with_reducible refine Kd.C_drew ?_)))
  (case side2=>first|exact Nat.le_refl _|exact (Kd.R_reads' b5.out).2.1);rintro e v9 ⟨e8,rfl,ho0,hb⟩;refine ⟨_,rfl,?_⟩;have a3:=zzm (Kd.R_elder' (by (with_reducible repeat (first|apply Kd.R_alloc|apply Kd.R_drewN|apply Kd.R_drew));exact b5.out) (Kd.R_base ho0) hb);have a4:=zzm (Kd.R_lower (Kd.R_new' ho0 (Kd.R_lt (by (with_reducible repeat (first|apply Kd.R_alloc|apply Kd.R_drewN|apply Kd.R_drew));exact b5.out))) (zzo zzh2));have a5:=zzm (zzh (g:=b0) (o:=.cells #[.int .i64 a6,.int .i64 a7] 24 (0,0)) (zzE a0.out) hb);have a8:=zzm (zzp zzh2 hb);clear b5 a0 HB;have b5:=a3;have b7:=a4;have a0:=a5;have HB:=a8;clear a3 a4 a5 a8
  (try clear hb)
  (try clear hb2)
  (try clear hk)
  (try clear hi)
  (try clear ho0);refine hK.out _ _ ⟨(zzk a0.out 0).trans rfl,(zzk a0.out 1).trans rfl⟩ (fun d9=>?_);clear hK K;refine zzO 26 ?_
  refine zzP 5 21 10 63 d6 ?_
  refine zzP 6 27 10 127 d6 ?_
  refine zzP 7 28 10 255 d6 ?_
  refine zzP 8 6 10 511 d6 ?_
  refine zzP 9 7 10 1023 d6 ?_
  refine done_ (done_of d6.out (by kernel_rfl)) ?_;go_upto_region 8 with (first|((with_reducible refine gate_callee (f:=6) rfl ?_);refine goesL_ (some 30) rfl rfl Try.func6 (by kernel_rfl) rfl #[.slice A0 l0.length c0] rfl zzM2 ?_;(with_reducible refine (Qf.calls k _ _ l0 b3 _ ?side1 ?side2 A9.out).mono ?_);(case side1=>exact zzcb j4 HB);(case side2=>exact j5.out);rintro e w0 ⟨t1,rfl,ho0,hb⟩;refine ⟨_,rfl,?_⟩;have a3:=zzm (Kd.R_elder' (by (with_reducible repeat (first|apply Kd.R_alloc|apply Kd.R_drewN|apply Kd.R_drew));exact b5.out) (Kd.R_base ho0) hb);have a4:=zzm (Kd.R_elder' (by (with_reducible repeat (first|apply Kd.R_alloc|apply Kd.R_drewN|apply Kd.R_drew));exact b7.out) (Kd.R_base ho0) hb);have a5:=zzm (Kd.R_lower (Kd.R_new' (Kd.R_new' ho0 (Kd.R_lt (by (with_reducible repeat (first|apply Kd.R_alloc|apply Kd.R_drewN|apply Kd.R_drew));exact b5.out))) (Kd.R_lt (by (with_reducible repeat (first|apply Kd.R_alloc|apply Kd.R_drewN|apply Kd.R_drew));exact b7.out))) (zzo zzh2));have a8:=zzm (zzh (g:=b0) (o:=.cells #[.int .i64 a6,.int .i64 a7] 24 (0,0)) (zzE a0.out) hb);have b2:=zzm (zzp zzh2 hb);clear b5 b7 a0 HB;have b5:=a3;have b7:=a4;have d2:=a5;have a0:=a8;have HB:=b2;clear a3 a4 a5 a8 b2;(try clear hb);(try clear hb2);(try clear hk);(try clear hi);(try clear ho0);obtain ⟨h4,h5,h6,h7⟩:=zzc2 a0.out)|((with_reducible refine gate_callee (f:=7) rfl ?_);refine goesL_ (some 34) rfl rfl Try.func7 (by kernel_rfl) rfl #[.agg #[.int .i64 a6,.int .i64 a7]] rfl zzM2 ?_;(with_reducible refine (Qi.calls a6 a7 l2 l3 _ s0.out).mono ?_);rintro e w1 ⟨rfl,hb⟩;refine ⟨_,rfl,?_⟩;have a3:=zzm (Kd.R_below (by (with_reducible repeat (first|apply Kd.R_alloc|apply Kd.R_drewN|apply Kd.R_drew));exact b5.out) hb);have a4:=zzm (Kd.R_below (by (with_reducible repeat (first|apply Kd.R_alloc|apply Kd.R_drewN|apply Kd.R_drew));exact b7.out) hb);have a5:=zzm (Kd.R_below (by (with_reducible repeat (first|apply Kd.R_alloc|apply Kd.R_drewN|apply Kd.R_drew));exact d2.out) hb);have a8:=zzm (zzh (g:=b0) (o:=.cells #[.int .i64 a6,.int .i64 a7] 24 (0,0)) (zzE a0.out) hb);have b2:=zzm (zzp zzh2 hb);clear b5 b7 d2 a0 HB;have b5:=a3;have b7:=a4;have d2:=a5;have a0:=a8;have HB:=b2;clear a3 a4 a5 a8 b2;(try clear hb);(try clear hb2);(try clear hk);(try clear hi);obtain ⟨e1,e2,eo22⟩:=Kd.R_slice d2.out;subst eo22)|((with_reducible refine gate_callee (f:=8) rfl ?_);refine goesL_ (some 35) rfl rfl Try.func8 (by kernel_rfl) rfl #[.slice e1 b3.length e2,.agg #[.int .i64 l2,.int .i64 l3]] rfl zzM2 ?_;(with_reducible refine (Qh.calls k _ _ b3 l2 l3 a9 g0 _ ?side1 ?side2 s1.out).mono ?_);(case side1=>repeat (first|exact (Kd.R_reads' d2.out).2.2|(with_reducible refine Kd.C_alloc ?_ _)|(with_reducible refine Kd.C_drewN ?_ _)|(with_reducible refine Kd.C_drew ?_)));(case side2=>first|exact Nat.le_refl _|exact (Kd.R_reads' d2.out).2.1);rintro e w2 ⟨g4,rfl,ho0,hb⟩;refine ⟨_,rfl,?_⟩;have a3:=zzm (Kd.R_elder' (by (with_reducible repeat (first|apply Kd.R_alloc|apply Kd.R_drewN|apply Kd.R_drew));exact b5.out) (Kd.R_base ho0) hb);have a4:=zzm (Kd.R_elder' (by (with_reducible repeat (first|apply Kd.R_alloc|apply Kd.R_drewN|apply Kd.R_drew));exact b7.out) (Kd.R_base ho0) hb);have a5:=zzm (Kd.R_elder' (by (with_reducible repeat (first|apply Kd.R_alloc|apply Kd.R_drewN|apply Kd.R_drew));exact d2.out) (Kd.R_base ho0) hb);have a8:=zzm (Kd.R_lower (Kd.R_new' (Kd.R_new' (Kd.R_new' ho0 (Kd.R_lt (by (with_reducible repeat (first|apply Kd.R_alloc|apply Kd.R_drewN|apply Kd.R_drew));exact b5.out))) (Kd.R_lt (by (with_reducible repeat (first|apply Kd.R_alloc|apply Kd.R_drewN|apply Kd.R_drew));exact b7.out))) (Kd.R_lt (by (with_reducible repeat (first|apply Kd.R_alloc|apply Kd.R_drewN|apply Kd.R_drew));exact d2.out))) (zzo zzh2));have b2:=zzm (zzh (g:=b0) (o:=.cells #[.int .i64 a6,.int .i64 a7] 24 (0,0)) (zzE a0.out) hb);have b9:=zzm (zzp zzh2 hb);clear b5 b7 d2 a0 HB;have b5:=a3;have b7:=a4;have d2:=a5;have d5:=a8;have a0:=b2;have HB:=b9;clear a3 a4 a5 a8 b2 b9;(try clear hb);(try clear hb2);(try clear hk);(try clear hi);(try clear ho0)))
  (try simp only [Act.put,zzq,zzr,zzs]);go_cut [46] (fun s2 wc=>∃ (kq:Nat) (g9:Bool),s2 = .bool g9∧Aside0 (laws_FnExactTermsPut.j0 kq l0 b6 d3 b3 a9 g0 g9 a6 a7=some r)∧Aside0 (kq≤k)∧Aside0 (Kd.R k30 30 wc w.heap.size (fun k_=>some k_≠((.slice e1 b3.length e2):Value).ownBlock∧some k_≠(g4:Value).ownBlock) e8 b6)∧Aside0 (Kd.R k30 30 wc w.heap.size (fun k_=>some k_≠(e8:Value).ownBlock∧some k_≠(g4:Value).ownBlock) (.slice e1 b3.length e2) b3)∧Aside0 (Kd.R k30 30 wc w.heap.size (fun k_=>some k_≠(e8:Value).ownBlock∧some k_≠((.slice e1 b3.length e2):Value).ownBlock) g4 a9)∧Aside0 (wc.heap[b0]? = some (.cells #[.int .i64 a6,.int .i64 a7] 24 (0,0)))∧Aside0 (Below w.heap.size w wc))
  case first=>
   have H:=m1.out;clear m1;obtain ⟨e4,p4,H⟩:=zzG H;by_cases j6:e4=true
   ·
    subst j6;replace H:=zzIt H;have H':=zzm H;clear H;obtain ⟨q1,t2,eo26⟩:=Kd.R_slice d5.out;subst eo26;obtain ⟨q2,q3,eo27⟩:=Kd.R_slice b7.out;subst eo27;go_wp2_with (first|((with_reducible refine gate_callee (f:=9) rfl ?_);refine goesL_ (some 40) rfl rfl Try.func9 (by kernel_rfl) rfl #[.slice q1 a9.length a9.length,.slice q2 b6.length q3] rfl zzM2 ?_;(with_reducible refine (Qd.calls k _ _ a9 _ _ b6 true _ ?side1 ?side2 ?side3 ?side4 p4.out).mono ?_);(case side1=>repeat (first|exact (Kd.R_reads' d5.out).2.2|(with_reducible refine Kd.C_alloc ?_ _)|(with_reducible refine Kd.C_drewN ?_ _)|(with_reducible refine Kd.C_drew ?_)));(case side2=>first|exact Nat.le_refl _|exact (Kd.R_reads' d5.out).2.1);(case side3=>repeat (first|exact (Kd.R_reads' b7.out).2.2|(with_reducible refine Kd.C_alloc ?_ _)|(with_reducible refine Kd.C_drewN ?_ _)|(with_reducible refine Kd.C_drew ?_)));(case side4=>first|exact Nat.le_refl _|exact (Kd.R_reads' b7.out).2.1);rintro e w3 ⟨rfl,hb⟩;refine ⟨_,rfl,?_⟩;have a3:=zzm (Kd.R_below (by (with_reducible repeat (first|apply Kd.R_alloc|apply Kd.R_drewN|apply Kd.R_drew));exact b5.out) hb);have a4:=zzm (Kd.R_below (by (with_reducible repeat (first|apply Kd.R_alloc|apply Kd.R_drewN|apply Kd.R_drew));exact b7.out) hb);have a5:=zzm (Kd.R_below (by (with_reducible repeat (first|apply Kd.R_alloc|apply Kd.R_drewN|apply Kd.R_drew));exact d2.out) hb);have a8:=zzm (Kd.R_below (by (with_reducible repeat (first|apply Kd.R_alloc|apply Kd.R_drewN|apply Kd.R_drew));exact d5.out) hb);have b2:=zzm (zzh (g:=b0) (o:=.cells #[.int .i64 a6,.int .i64 a7] 24 (0,0)) (zzE a0.out) hb);have b9:=zzm (zzp zzh2 hb);clear b5 b7 d2 d5 a0 HB;have b5:=a3;have b7:=a4;have d2:=a5;have d5:=a8;have a0:=b2;have HB:=b9;clear a3 a4 a5 a8 b2 b9;(try clear hb);(try clear hb2);(try clear hk);(try clear hi)));go_meet
    case rel=>exact ⟨_,((g0 != d3)),(by first|rfl|(simp;done)|(simp [*];done)),H',⟨by first|omega|exact Nat.le_refl _⟩,⟨by (with_reducible repeat (first|apply Kd.R_alloc|apply Kd.R_drewN|apply Kd.R_drew));exact Kd.R_mono b7.out (fun _ hk=>⟨hk.1.2,hk.2⟩)⟩,⟨by (with_reducible repeat (first|apply Kd.R_alloc|apply Kd.R_drewN|apply Kd.R_drew));exact Kd.R_mono d2.out (fun _ hk=>⟨hk.1.2,hk.2⟩)⟩,⟨by (with_reducible repeat (first|apply Kd.R_alloc|apply Kd.R_drewN|apply Kd.R_drew));exact Kd.R_mono d5.out (fun _ hk=>⟨hk.1.2,hk.2⟩)⟩,⟨zzE a0.out⟩,⟨zzh3⟩⟩
   ·
    replace j6:=Bool.eq_false_iff.mpr j6;subst j6;replace H:=zzIf H;have H':=zzm H;clear H;obtain ⟨q4,t3,eo29⟩:=Kd.R_slice d5.out;subst eo29;obtain ⟨q5,q6,eo30⟩:=Kd.R_slice b7.out;subst eo30;go_wp2_with (first|((with_reducible refine gate_callee (f:=9) rfl ?_);refine goesL_ (some 40) rfl rfl Try.func9 (by kernel_rfl) rfl #[.slice q4 a9.length a9.length,.slice q5 b6.length q6] rfl zzM2 ?_;(with_reducible refine (Qd.calls k _ _ a9 _ _ b6 false _ ?side1 ?side2 ?side3 ?side4 p4.out).mono ?_);(case side1=>repeat (first|exact (Kd.R_reads' d5.out).2.2|(with_reducible refine Kd.C_alloc ?_ _)|(with_reducible refine Kd.C_drewN ?_ _)|(with_reducible refine Kd.C_drew ?_)));(case side2=>first|exact Nat.le_refl _|exact (Kd.R_reads' d5.out).2.1);(case side3=>repeat (first|exact (Kd.R_reads' b7.out).2.2|(with_reducible refine Kd.C_alloc ?_ _)|(with_reducible refine Kd.C_drewN ?_ _)|(with_reducible refine Kd.C_drew ?_)));(case side4=>first|exact Nat.le_refl _|exact (Kd.R_reads' b7.out).2.1);rintro e w4 ⟨rfl,hb⟩;refine ⟨_,rfl,?_⟩;have a3:=zzm (Kd.R_below (by (with_reducible repeat (first|apply Kd.R_alloc|apply Kd.R_drewN|apply Kd.R_drew));exact b5.out) hb);have a4:=zzm (Kd.R_below (by (with_reducible repeat (first|apply Kd.R_alloc|apply Kd.R_drewN|apply Kd.R_drew));exact b7.out) hb);have a5:=zzm (Kd.R_below (by (with_reducible repeat (first|apply Kd.R_alloc|apply Kd.R_drewN|apply Kd.R_drew));exact d2.out) hb);have a8:=zzm (Kd.R_below (by (with_reducible repeat (first|apply Kd.R_alloc|apply Kd.R_drewN|apply Kd.R_drew));exact d5.out) hb);have b2:=zzm (zzh (g:=b0) (o:=.cells #[.int .i64 a6,.int .i64 a7] 24 (0,0)) (zzE a0.out) hb);have b9:=zzm (zzp zzh2 hb);clear b5 b7 d2 d5 a0 HB;have b5:=a3;have b7:=a4;have d2:=a5;have d5:=a8;have a0:=b2;have HB:=b9;clear a3 a4 a5 a8 b2 b9;(try clear hb);(try clear hb2);(try clear hk);(try clear hi)));go_meet
    case rel=>exact ⟨_,(true),(by first|rfl|(simp;done)|(simp [*];done)),H',⟨by first|omega|exact Nat.le_refl _⟩,⟨by (with_reducible repeat (first|apply Kd.R_alloc|apply Kd.R_drewN|apply Kd.R_drew));exact Kd.R_mono b7.out (fun _ hk=>⟨hk.1.2,hk.2⟩)⟩,⟨by (with_reducible repeat (first|apply Kd.R_alloc|apply Kd.R_drewN|apply Kd.R_drew));exact Kd.R_mono d2.out (fun _ hk=>⟨hk.1.2,hk.2⟩)⟩,⟨by (with_reducible repeat (first|apply Kd.R_alloc|apply Kd.R_drewN|apply Kd.R_drew));exact Kd.R_mono d5.out (fun _ hk=>⟨hk.1.2,hk.2⟩)⟩,⟨zzE a0.out⟩,⟨zzh3⟩⟩
  case rest=>
   clear m1;try clear c2
   try clear p2
   try clear c3
   try clear c4
   try clear k8
   try clear c5
   try clear c6
   try clear c7
   try clear c8
   try clear c9
   try clear j6
   try clear h4
   try clear h5
   try clear h6
   try clear h7
   obtain ⟨kq,g9,rfl,HA,HJ11,a2,b8,a1,a0,HB⟩:=hcut;cases kq with
   | zero=>exact absurd HA.out (by simp [laws_FnExactTermsPut.j0])
   | succ e3=>
    have H:=HA.out;clear HA;simp only [laws_FnExactTermsPut.j0] at H;by_cases k3:g9=true
    ·
     subst k3;replace H:=zzIt H;obtain rfl:=Option.some.inj H;go_wp2;go_ret;exact ⟨zzR,zzh3⟩
    ·
     replace k3:=Bool.eq_false_iff.mpr k3;subst k3;replace H:=zzIf H;obtain ⟨g1,p5,H⟩:=zzG H;obtain ⟨q7,p6,H⟩:=zzG H;by_cases k4:q7=true
     ·
      subst k4;replace H:=zzIt H;replace H:=zzH H;obtain ⟨⟨j7,q8⟩,n8,H⟩:=H;replace H:(if j7 < 0 then (laws_FnExactTermsPut.j1 e3 l0 b6 d3 a9 true a6 a7) else ((Qd.f e3 a9 b6).bind fun m2=>(if m2=true then (laws_FnExactTermsPut.j1 e3 l0 b6 d3 a9 (g0 != d3) a6 a7) else (laws_FnExactTermsPut.j1 e3 l0 b6 d3 a9 true a6 a7))))=some r:=H;have s3:=zzm n8;clear n8;have m3:=zzm H;clear H;go_upto_region 14 with (first|((with_reducible refine gate_callee (f:=6) rfl ?_);refine goesL_ (some 49) rfl rfl Try.func6 (by kernel_rfl) rfl #[.slice A0 l0.length c0] rfl zzM2 ?_;(with_reducible refine (Qf.calls e3 _ _ l0 g1 _ ?side1 ?side2 p5.out).mono ?_);(case side1=>exact zzcb j4 HB);(case side2=>exact j5.out);rintro e w6 ⟨q9,rfl,ho0,hb⟩;refine ⟨_,rfl,?_⟩;have a3:=zzm (Kd.R_elder' (by (with_reducible repeat (first|apply Kd.R_alloc|apply Kd.R_drewN|apply Kd.R_drew));exact a2.out) (Kd.R_base ho0) hb);have a4:=zzm (Kd.R_elder' (by (with_reducible repeat (first|apply Kd.R_alloc|apply Kd.R_drewN|apply Kd.R_drew));exact b8.out) (Kd.R_base ho0) hb);have a5:=zzm (Kd.R_elder' (by (with_reducible repeat (first|apply Kd.R_alloc|apply Kd.R_drewN|apply Kd.R_drew));exact a1.out) (Kd.R_base ho0) hb);have a8:=zzm (Kd.R_lower (Kd.R_new' (Kd.R_new' (Kd.R_new' ho0 (Kd.R_lt (by (with_reducible repeat (first|apply Kd.R_alloc|apply Kd.R_drewN|apply Kd.R_drew));exact a2.out))) (Kd.R_lt (by (with_reducible repeat (first|apply Kd.R_alloc|apply Kd.R_drewN|apply Kd.R_drew));exact b8.out))) (Kd.R_lt (by (with_reducible repeat (first|apply Kd.R_alloc|apply Kd.R_drewN|apply Kd.R_drew));exact a1.out))) (zzo zzh2));have b2:=zzm (zzh (g:=b0) (o:=.cells #[.int .i64 a6,.int .i64 a7] 24 (0,0)) (zzE a0.out) hb);have b9:=zzm (zzp zzh2 hb);clear a2 b8 a1 a0 HB;have a2:=a3;have b8:=a4;have a1:=a5;have d0:=a8;have a0:=b2;have HB:=b9;clear a3 a4 a5 a8 b2 b9;(try clear hb);(try clear hb2);(try clear hk);(try clear hi);(try clear ho0);obtain ⟨m4,m5,eo39⟩:=Kd.R_slice d0.out;subst eo39)|((with_reducible refine gate_callee (f:=9) rfl ?_);refine goesL_ (some 50) rfl rfl Try.func9 (by kernel_rfl) rfl #[.slice e1 b3.length e2,.slice m4 g1.length m5] rfl zzM2 ?_;(with_reducible refine (Qd.calls e3 _ _ b3 _ _ g1 true _ ?side1 ?side2 ?side3 ?side4 p6.out).mono ?_);(case side1=>repeat (first|exact (Kd.R_reads' b8.out).2.2|(with_reducible refine Kd.C_alloc ?_ _)|(with_reducible refine Kd.C_drewN ?_ _)|(with_reducible refine Kd.C_drew ?_)));(case side2=>first|exact Nat.le_refl _|exact (Kd.R_reads' b8.out).2.1);(case side3=>repeat (first|exact (Kd.R_reads' d0.out).2.2|(with_reducible refine Kd.C_alloc ?_ _)|(with_reducible refine Kd.C_drewN ?_ _)|(with_reducible refine Kd.C_drew ?_)));(case side4=>first|exact Nat.le_refl _|exact (Kd.R_reads' d0.out).2.1);rintro e w7 ⟨rfl,hb⟩;refine ⟨_,rfl,?_⟩;have a3:=zzm (Kd.R_below (by (with_reducible repeat (first|apply Kd.R_alloc|apply Kd.R_drewN|apply Kd.R_drew));exact a2.out) hb);have a4:=zzm (Kd.R_below (by (with_reducible repeat (first|apply Kd.R_alloc|apply Kd.R_drewN|apply Kd.R_drew));exact b8.out) hb);have a5:=zzm (Kd.R_below (by (with_reducible repeat (first|apply Kd.R_alloc|apply Kd.R_drewN|apply Kd.R_drew));exact a1.out) hb);have a8:=zzm (Kd.R_below (by (with_reducible repeat (first|apply Kd.R_alloc|apply Kd.R_drewN|apply Kd.R_drew));exact d0.out) hb);have b2:=zzm (zzh (g:=b0) (o:=.cells #[.int .i64 a6,.int .i64 a7] 24 (0,0)) (zzE a0.out) hb);have b9:=zzm (zzp zzh2 hb);clear a2 b8 a1 d0 a0 HB;have a2:=a3;have b8:=a4;have a1:=a5;have d0:=a8;have a0:=b2;have HB:=b9;clear a3 a4 a5 a8 b2 b9;(try clear hb);(try clear hb2);(try clear hk);(try clear hi))|((with_reducible refine gate_callee (f:=10) rfl ?_);refine goesL_ (some 54) rfl rfl Try.func10 (by kernel_rfl) rfl #[.slice e1 b3.length e2,.int .i64 1] rfl zzM2 ?_;(with_reducible refine (Qe.calls e3 (fun k_=>some k_=(.slice e1 b3.length e2:Value).ownBlock) (.slice e1 b3.length e2) b3 1 j7 q8 w _ ?side1 ?side2 s3.out).mono ?_);(case side1=>repeat (first|(with_reducible first|exact HB.out|apply zza|apply zzb|apply zzc|refine zzd ?_ g8.out)|exact HB.out));(case side2=>exact Kd.R_tight rfl b8.out);rintro e w8 ⟨rfl,hy0,hb,hkp⟩;refine ⟨_,rfl,?_⟩;have a3:=zzm (Kd.R_mono (ok':=fun k_=>some k_≠(.slice e1 b3.length e2:Value).ownBlock∧some k_≠(g4:Value).ownBlock∧some k_≠(.slice m4 g1.length m5:Value).ownBlock) (Kd.R_keptB (a2.out) hkp (fun k_ hk_ hs_=>(hk_.1.1) hs_)) (fun k_ hk_=>⟨hk_.1.1.1,hk_.1.1.2,hk_.1.2⟩));have a4:=zzm (Kd.R_reok rfl hy0 (fun k_ e_=>b8.out.1 k_ e_));have a5:=zzm (Kd.R_mono (ok':=fun k_=>some k_≠(e8:Value).ownBlock∧some k_≠(.slice e1 b3.length e2:Value).ownBlock∧some k_≠(.slice m4 g1.length m5:Value).ownBlock) (Kd.R_keptB (a1.out) hkp (fun k_ hk_ hs_=>(hk_.1.2) hs_)) (fun k_ hk_=>⟨hk_.1.1.1,hk_.1.1.2,hk_.1.2⟩));have a8:=zzm (blk_kept (zzE a0.out) hkp (fun hs_=>(fun e_=>(Kd.R_ne b8.out a0.out (by decide)) e_) hs_));have b2:=zzm (Kd.R_mono (ok':=fun k_=>some k_≠(e8:Value).ownBlock∧some k_≠(.slice e1 b3.length e2:Value).ownBlock∧some k_≠(g4:Value).ownBlock) (Kd.R_keptB (d0.out) hkp (fun k_ hk_ hs_=>(hk_.1.2) hs_)) (fun k_ hk_=>⟨hk_.1.1.1.2,hk_.1.1.2,hk_.1.2⟩));have b9:=zzm (hb);clear a2 b8 a1 a0 d0 HB;have a2:=a3;have b8:=a4;have a1:=a5;have a0:=a8;have d0:=b2;have HB:=b9;clear a3 a4 a5 a8 b2 b9;(try clear hb);(try clear hkp);(try clear hy0)))
      (try simp only [Act.put,zzq,zzr,zzs]);go_cut [67] (fun s4 wc=>∃ (kq:Nat) (h0:Bool),s4 = .bool h0∧Aside0 (laws_FnExactTermsPut.j1 kq l0 b6 d3 a9 h0 a6 a7=some r)∧Aside0 (kq≤e3)∧Aside0 (Kd.R k30 30 wc w.heap.size (fun k_=>some k_≠(g4:Value).ownBlock) e8 b6)∧Aside0 (Kd.R k30 30 wc w.heap.size (fun k_=>some k_≠(e8:Value).ownBlock) g4 a9)∧Aside0 (wc.heap[b0]? = some (.cells #[.int .i64 a6,.int .i64 a7] 24 (0,0)))∧Aside0 (Below w.heap.size w wc))
      case first=>
       have H:=m3.out;clear m3;by_cases h9:j7 < 0
       ·
        rw [if_pos h9] at H;have e9:decide (j7 < 0)=true:=decide_eq_true h9;clear h9
        (first|rw [e9]|(simp only [i64_w,i32_w];rw [e9])|skip);have H':=zzm H;clear H;go_wp2;go_meet
        case rel=>exact ⟨_,(true),(by first|rfl|(simp;done)|(simp [*];done)),H',⟨by have:=HJ11.out;first|omega|exact Nat.le_refl _⟩,⟨by (with_reducible repeat (first|apply Kd.R_alloc|apply Kd.R_drewN|apply Kd.R_drew));exact Kd.R_mono a2.out (fun _ hk=>hk.2.1)⟩,⟨by (with_reducible repeat (first|apply Kd.R_alloc|apply Kd.R_drewN|apply Kd.R_drew));exact Kd.R_mono a1.out (fun _ hk=>hk.1)⟩,⟨zzE a0.out⟩,⟨zzh3⟩⟩
       ·
        rw [if_neg h9] at H;have e9:decide (j7 < 0)=false:=decide_eq_false h9;clear h9
        (first|rw [e9]|(simp only [i64_w,i32_w];rw [e9])|skip);obtain ⟨m2,p7,H⟩:=zzG H;by_cases k5:m2=true
        ·
         subst k5;replace H:=zzIt H;have H':=zzm H;clear H;obtain ⟨t4,t5,eo45⟩:=Kd.R_slice a1.out;subst eo45;obtain ⟨t6,t7,eo46⟩:=Kd.R_slice a2.out;subst eo46;go_wp2_with (first|(go_at_call 9;(try simp only [cl_slice]);(with_reducible refine (Qd.calls e3 _ _ a9 _ _ b6 true _ ?side1 ?side2 ?side3 ?side4 p7.out).mono ?_);(case side1=>repeat (first|exact (Kd.R_reads' a1.out).2.2|(with_reducible refine Kd.C_alloc ?_ _)|(with_reducible refine Kd.C_drewN ?_ _)|(with_reducible refine Kd.C_drew ?_)));(case side2=>first|exact Nat.le_refl _|exact (Kd.R_reads' a1.out).2.1);(case side3=>repeat (first|exact (Kd.R_reads' a2.out).2.2|(with_reducible refine Kd.C_alloc ?_ _)|(with_reducible refine Kd.C_drewN ?_ _)|(with_reducible refine Kd.C_drew ?_)));(case side4=>first|exact Nat.le_refl _|exact (Kd.R_reads' a2.out).2.1);rintro e w9 ⟨rfl,hb⟩;have a3:=zzm (Kd.R_below (by (with_reducible repeat (first|apply Kd.R_alloc|apply Kd.R_drewN|apply Kd.R_drew));exact a2.out) hb);have a4:=zzm (Kd.R_below (by (with_reducible repeat (first|apply Kd.R_alloc|apply Kd.R_drewN|apply Kd.R_drew));exact b8.out) hb);have a5:=zzm (Kd.R_below (by (with_reducible repeat (first|apply Kd.R_alloc|apply Kd.R_drewN|apply Kd.R_drew));exact a1.out) hb);have a8:=zzm (Kd.R_below (by (with_reducible repeat (first|apply Kd.R_alloc|apply Kd.R_drewN|apply Kd.R_drew));exact d0.out) hb);have b2:=zzm (zzh (g:=b0) (o:=.cells #[.int .i64 a6,.int .i64 a7] 24 (0,0)) (zzE a0.out) hb);have b9:=zzm (zzp zzh2 hb);clear a2 b8 a1 d0 a0 HB;have a2:=a3;have b8:=a4;have a1:=a5;have d0:=a8;have a0:=b2;have HB:=b9;clear a3 a4 a5 a8 b2 b9;(try clear hb);(try clear hb2);(try clear hk);(try clear hi)));go_meet
         case rel=>exact ⟨_,((g0 != d3)),(by first|rfl|(simp;done)|(simp [*];done)),H',⟨by have:=HJ11.out;first|omega|exact Nat.le_refl _⟩,⟨by (with_reducible repeat (first|apply Kd.R_alloc|apply Kd.R_drewN|apply Kd.R_drew));exact Kd.R_mono a2.out (fun _ hk=>hk.2.1)⟩,⟨by (with_reducible repeat (first|apply Kd.R_alloc|apply Kd.R_drewN|apply Kd.R_drew));exact Kd.R_mono a1.out (fun _ hk=>hk.1)⟩,⟨zzE a0.out⟩,⟨zzh3⟩⟩
        ·
         replace k5:=Bool.eq_false_iff.mpr k5;subst k5;replace H:=zzIf H;have H':=zzm H;clear H;obtain ⟨t8,t9,eo48⟩:=Kd.R_slice a1.out;subst eo48;obtain ⟨v0,v1,eo49⟩:=Kd.R_slice a2.out;subst eo49;go_wp2_with (first|(go_at_call 9;(try simp only [cl_slice]);(with_reducible refine (Qd.calls e3 _ _ a9 _ _ b6 false _ ?side1 ?side2 ?side3 ?side4 p7.out).mono ?_);(case side1=>repeat (first|exact (Kd.R_reads' a1.out).2.2|(with_reducible refine Kd.C_alloc ?_ _)|(with_reducible refine Kd.C_drewN ?_ _)|(with_reducible refine Kd.C_drew ?_)));(case side2=>first|exact Nat.le_refl _|exact (Kd.R_reads' a1.out).2.1);(case side3=>repeat (first|exact (Kd.R_reads' a2.out).2.2|(with_reducible refine Kd.C_alloc ?_ _)|(with_reducible refine Kd.C_drewN ?_ _)|(with_reducible refine Kd.C_drew ?_)));(case side4=>first|exact Nat.le_refl _|exact (Kd.R_reads' a2.out).2.1);rintro e x0 ⟨rfl,hb⟩;have a3:=zzm (Kd.R_below (by (with_reducible repeat (first|apply Kd.R_alloc|apply Kd.R_drewN|apply Kd.R_drew));exact a2.out) hb);have a4:=zzm (Kd.R_below (by (with_reducible repeat (first|apply Kd.R_alloc|apply Kd.R_drewN|apply Kd.R_drew));exact b8.out) hb);have a5:=zzm (Kd.R_below (by (with_reducible repeat (first|apply Kd.R_alloc|apply Kd.R_drewN|apply Kd.R_drew));exact a1.out) hb);have a8:=zzm (Kd.R_below (by (with_reducible repeat (first|apply Kd.R_alloc|apply Kd.R_drewN|apply Kd.R_drew));exact d0.out) hb);have b2:=zzm (zzh (g:=b0) (o:=.cells #[.int .i64 a6,.int .i64 a7] 24 (0,0)) (zzE a0.out) hb);have b9:=zzm (zzp zzh2 hb);clear a2 b8 a1 d0 a0 HB;have a2:=a3;have b8:=a4;have a1:=a5;have d0:=a8;have a0:=b2;have HB:=b9;clear a3 a4 a5 a8 b2 b9;(try clear hb);(try clear hb2);(try clear hk);(try clear hi)));go_meet
         case rel=>exact ⟨_,(true),(by first|rfl|(simp;done)|(simp [*];done)),H',⟨by have:=HJ11.out;first|omega|exact Nat.le_refl _⟩,⟨by (with_reducible repeat (first|apply Kd.R_alloc|apply Kd.R_drewN|apply Kd.R_drew));exact Kd.R_mono a2.out (fun _ hk=>hk.2.1)⟩,⟨by (with_reducible repeat (first|apply Kd.R_alloc|apply Kd.R_drewN|apply Kd.R_drew));exact Kd.R_mono a1.out (fun _ hk=>hk.1)⟩,⟨zzE a0.out⟩,⟨zzh3⟩⟩
      case rest=>
       clear m3;try clear c1
       try clear c2
       try clear p2
       try clear c3
       try clear c4
       try clear k8
       try clear c5
       try clear c6
       try clear c7
       try clear c8
       try clear c9
       try clear s5
       try clear j6
       try clear k3
       try clear k4
       try clear h9
       try clear e9
       try clear k5
       try clear h4
       try clear h5
       try clear h6
       try clear h7
       try clear p2
       obtain ⟨kq,h0,rfl,HA,HJ36,a2,a1,a0,HB⟩:=hcut;cases kq with
       | zero=>exact absurd HA.out (by simp [laws_FnExactTermsPut.j1])
       | succ d1=>
        have H:=HA.out;clear HA;simp only [laws_FnExactTermsPut.j1] at H;by_cases l8:h0=true
        ·
         subst l8;replace H:=zzIt H;obtain rfl:=Option.some.inj H;go_wp2;go_ret;exact ⟨zzR,zzh3⟩
        ·
         replace l8:=Bool.eq_false_iff.mpr l8;subst l8;replace H:=zzIf H;replace H:=zzH H;obtain ⟨⟨e0,b1⟩,n9,H⟩:=H;replace H:((Qg.f d1 b1 1).bind fun e7=>(if e7 < 0 then (some false) else (if e7=e0 then ((Qf.f d1 l0).bind fun h8=>((Qi.f a6 a7).bind fun n0=>((Qh.f d1 h8 n0.1 n0.2).bind fun h1=>((Qd.f d1 h1.1 b6).bind fun g5=>(if g5=true then (laws_FnExactTermsPut.j2 d1 b1 e0 (h1.2 != d3)) else (laws_FnExactTermsPut.j2 d1 b1 e0 true)))))) else (some false))))=some r:=H;have o0:=zzm n9;clear n9;obtain ⟨e7,o1,H⟩:=zzG H;by_cases j8:e7 < 0
         ·
          rw [if_pos j8] at H;have n1:decide (e7 < 0)=true:=decide_eq_true j8;clear j8;obtain rfl:=Option.some.inj H;obtain ⟨j9,l4,eo55⟩:=Kd.R_slice a1.out;subst eo55;go_wp2_with (first|((with_reducible refine gate_callee (f:=10) rfl ?_);refine goesL_ (some 70) rfl rfl Try.func10 (by kernel_rfl) rfl #[cl (.slice j9 a9.length l4),.int .i64 1] rfl zzM2 ?_;(with_reducible refine (Qe.calls2 d1 (fun k_=>some k_=(.slice j9 a9.length l4:Value).ownBlock) (.slice j9 a9.length l4) a9 1 e0 b1 w _ ?side1 ?side2 o0.out).mono ?_);(case side1=>repeat (first|(with_reducible first|exact HB.out|apply zza|apply zzb|apply zzc|refine zzd ?_ g8.out)|exact HB.out));(case side2=>exact Kd.R_tight rfl a1.out);rintro e x1 ⟨rfl,hy0,hb,hkp⟩;refine ⟨_,rfl,?_⟩;have a3:=zzm (Kd.R_mono (ok':=fun k_=>some k_≠(.slice j9 a9.length l4:Value).ownBlock) (Kd.R_keptB (a2.out) hkp (fun k_ hk_ hs_=>(hk_) hs_)) (fun k_ hk_=>hk_.1));have a4:=zzm (Kd.R_reok rfl hy0 (fun k_ e_=>a1.out.1 k_ e_));have a5:=zzm (blk_kept (zzE a0.out) hkp (fun hs_=>(fun e_=>(Kd.R_ne a1.out a0.out (by decide)) e_) hs_));have a8:=zzm (hb);clear a2 a1 a0 HB;have a2:=a3;have a1:=a4;have a0:=a5;have HB:=a8;clear a3 a4 a5 a8;(try clear hb);(try clear hkp);(try clear hy0))|((with_reducible refine gate_callee (f:=11) rfl ?_);refine goesL_ (some 73) rfl rfl Try.func11 (by kernel_rfl) rfl #[.slice j9 b1.length b1.length,.int .i64 1] rfl (by (try simp only [map_toArray,map_cons,map_nil]);first|done|(rw [show b1.length=a9.length from (Kd.R_reads' a1.out).1.symm] <;> rfl)|rfl|(simp only [length_drop,length_take];rfl)) ?_;(with_reducible refine (Qg.calls d1 _ _ b1 1 e7 _ ?side1 ?side2 o1.out).mono ?_);(case side1=>repeat (first|exact (Kd.R_reads' a1.out).2.2|(with_reducible refine Kd.C_alloc ?_ _)|(with_reducible refine Kd.C_drewN ?_ _)|(with_reducible refine Kd.C_drew ?_)));(case side2=>first|exact Nat.le_refl _|(rw [show b1.length=a9.length from (Kd.R_reads' a1.out).1.symm];exact (Kd.R_reads' a1.out).2.1));rintro e w' ⟨rfl,⟨nd,rfl⟩⟩;refine ⟨_,rfl,?_⟩));go_ret;exact ⟨zzR,zzh3⟩
         ·
          rw [if_neg j8] at H;have n1:decide (e7 < 0)=false:=decide_eq_false j8;clear j8;by_cases k6:e7=e0
          ·
           rw [if_pos k6] at H;obtain ⟨n2,n3⟩:=zzQ k6;clear k6;obtain ⟨h8,s6,H⟩:=zzG H;replace H:=zzH H;obtain ⟨⟨l5,l6⟩,o2,H⟩:=H;replace H:((Qh.f d1 h8 l5 l6).bind fun h1=>((Qd.f d1 h1.1 b6).bind fun g5=>(if g5=true then (laws_FnExactTermsPut.j2 d1 b1 e0 (h1.2 != d3)) else (laws_FnExactTermsPut.j2 d1 b1 e0 true))))=some r:=H;have s7:=zzm o2;clear o2;replace H:=zzH H;obtain ⟨⟨g2,m6⟩,o3,H⟩:=H;replace H:((Qd.f d1 g2 b6).bind fun g5=>(if g5=true then (laws_FnExactTermsPut.j2 d1 b1 e0 (m6 != d3)) else (laws_FnExactTermsPut.j2 d1 b1 e0 true)))=some r:=H;have s8:=zzm o3;clear o3;have m7:=zzm H;clear H;obtain ⟨e5,g6,eo62⟩:=Kd.R_slice a1.out;subst eo62;try go_wp2_with (first|((with_reducible refine gate_callee (f:=10) rfl ?_);refine goesL_ (some 70) rfl rfl Try.func10 (by kernel_rfl) rfl #[cl (.slice e5 a9.length g6),.int .i64 1] rfl zzM2 ?_;(with_reducible refine (Qe.calls2 d1 (fun k_=>some k_=(.slice e5 a9.length g6:Value).ownBlock) (.slice e5 a9.length g6) a9 1 e0 b1 w _ ?side1 ?side2 o0.out).mono ?_);(case side1=>repeat (first|(with_reducible first|exact HB.out|apply zza|apply zzb|apply zzc|refine zzd ?_ g8.out)|exact HB.out));(case side2=>exact Kd.R_tight rfl a1.out);rintro e j3 ⟨rfl,hy0,hb,hkp⟩;refine ⟨_,rfl,?_⟩;have a3:=zzm (Kd.R_mono (ok':=fun k_=>some k_≠(.slice e5 a9.length g6:Value).ownBlock) (Kd.R_keptB (a2.out) hkp (fun k_ hk_ hs_=>(hk_) hs_)) (fun k_ hk_=>hk_.1));have a4:=zzm (Kd.R_reok rfl hy0 (fun k_ e_=>a1.out.1 k_ e_));have a5:=zzm (blk_kept (zzE a0.out) hkp (fun hs_=>(fun e_=>(Kd.R_ne a1.out a0.out (by decide)) e_) hs_));have a8:=zzm (hb);clear a2 a1 a0 HB;have a2:=a3;have a1:=a4;have a0:=a5;have HB:=a8;clear a3 a4 a5 a8;(try clear hb);(try clear hkp);(try clear hy0))|((with_reducible refine gate_callee (f:=11) rfl ?_);refine goesL_ (some 73) rfl rfl Try.func11 (by kernel_rfl) rfl #[.slice e5 b1.length b1.length,.int .i64 1] rfl (by (try simp only [map_toArray,map_cons,map_nil]);first|done|(rw [show b1.length=a9.length from (Kd.R_reads' a1.out).1.symm] <;> rfl)|rfl|(simp only [length_drop,length_take];rfl)) ?_;(with_reducible refine (Qg.calls d1 _ _ b1 1 e7 _ ?side1 ?side2 o1.out).mono ?_);(case side1=>repeat (first|exact (Kd.R_reads' a1.out).2.2|(with_reducible refine Kd.C_alloc ?_ _)|(with_reducible refine Kd.C_drewN ?_ _)|(with_reducible refine Kd.C_drew ?_)));(case side2=>first|exact Nat.le_refl _|(rw [show b1.length=a9.length from (Kd.R_reads' a1.out).1.symm];exact (Kd.R_reads' a1.out).2.1));rintro e w' ⟨rfl,⟨nd,rfl⟩⟩;refine ⟨_,rfl,?_⟩))
           (try (rw [drewN_self j3];generalize hq_:World.drewN j3 _=j3;have a3:Aside0 (Kd.R k30 30 j3 w.heap.size (fun k_=>some k_≠(.slice e5 a9.length g6:Value).ownBlock) e8 b6):=⟨by rw [← hq_];exact (by (with_reducible repeat (first|apply Kd.R_alloc|apply Kd.R_drewN|apply Kd.R_drew));exact a2.out)⟩;have a4:Aside0 (Kd.R k30 30 j3 w.heap.size (fun k_=>some k_≠(e8:Value).ownBlock) (.slice e5 a9.length g6) b1):=⟨by rw [← hq_];exact (by (with_reducible repeat (first|apply Kd.R_alloc|apply Kd.R_drewN|apply Kd.R_drew));exact a1.out)⟩;have a5:Aside0 (j3.heap[b0]? = some (.cells #[.int .i64 a6,.int .i64 a7] 24 (0,0))):=⟨by rw [← hq_];exact (zzE a0.out)⟩;have a8:Aside0 (Below w.heap.size w j3):=⟨by rw [← hq_];exact zzh2⟩;clear a2 a1 a0 HB hq_;have a2:=a3;have a1:=a4;have a0:=a5;have HB:=a8;clear a3 a4 a5 a8));have a3:=zzm (Kd.R_drew a2.out);have a4:=zzm (Kd.R_drew a1.out);have a5:=zzm (zzg a0.out);have a8:=zzm (zzc HB.out);clear a2 a1 a0 HB;have a2:=a3;have a1:=a4;have a0:=a5;have HB:=a8;clear a3 a4 a5 a8;refine start_ (n:=10) (S:=fun w'=>w'.cell? ⟨b0,0,none⟩=some (.int .i64 a6)∧w'.cell? ⟨b0,1,none⟩=some (.int .i64 a7)) (ds:=[]) (zzB 10 0) (by kernel_rfl) rfl rfl ⟨(zzk a0.out 0).trans rfl,(zzk a0.out 1).trans rfl⟩ (fun d9=>?_);refine with_tabW laws_FnExactTermsPut.tab24 laws_FnExactTermsPut.bits24 (fun d6 n7=>?_);generalize j3.drew=x2 at a2 a1 a0 HB d9 ⊢;refine zzP 0 80 10 1 d6 ?_
           refine zzT 2 82 10 5 d6 n7 d9 ?_
           refine one_ (i:=1) (N:=some 81) (zzB 10 7) rfl rfl (one_of d6.out (by kernel_rfl)) (by decide) (fun K hK=>?_);refine goes_ Try.func6 (by kernel_rfl) rfl #[.slice A0 l0.length c0] (by rfl) rfl rfl zzM2 ?_;with_reducible refine (Qf.calls d1 _ _ l0 h8 _ ?side1 ?side2 s6.out).mono ?_
           (case side1=>exact zzcb j4 HB)
           (case side2=>exact j5.out);rintro e x3 ⟨v2,rfl,ho0,hb⟩;refine ⟨_,rfl,?_⟩;have a3:=zzm (Kd.R_elder' (by (with_reducible repeat (first|apply Kd.R_alloc|apply Kd.R_drewN|apply Kd.R_drew));exact a2.out) (Kd.R_base ho0) hb);have a4:=zzm (Kd.R_elder' (by (with_reducible repeat (first|apply Kd.R_alloc|apply Kd.R_drewN|apply Kd.R_drew));exact a1.out) (Kd.R_base ho0) hb);have a5:=zzm (Kd.R_lower (Kd.R_new' (Kd.R_new' ho0 (Kd.R_lt (by (with_reducible repeat (first|apply Kd.R_alloc|apply Kd.R_drewN|apply Kd.R_drew));exact a2.out))) (Kd.R_lt (by (with_reducible repeat (first|apply Kd.R_alloc|apply Kd.R_drewN|apply Kd.R_drew));exact a1.out))) (zzo zzh2));have a8:=zzm (zzh (g:=b0) (o:=.cells #[.int .i64 a6,.int .i64 a7] 24 (0,0)) (zzE a0.out) hb);have b2:=zzm (zzp zzh2 hb);clear a2 a1 a0 HB;have a2:=a3;have a1:=a4;have d4:=a5;have a0:=a8;have HB:=b2;clear a3 a4 a5 a8 b2
           (try clear hb)
           (try clear hb2)
           (try clear hk)
           (try clear hi)
           (try clear ho0);refine hK.out _ _ ⟨(zzk a0.out 0).trans rfl,(zzk a0.out 1).trans rfl⟩ (fun d9=>?_);clear hK K;refine zzO 81 ?_
           refine one_ (i:=3) (N:=some 83) (zzB 10 15) rfl rfl (one_of d6.out (by kernel_rfl)) (by decide) (fun K hK=>?_);refine goes_ Try.func7 (by kernel_rfl) rfl #[.agg #[.int .i64 a6,.int .i64 a7]] (by rfl) rfl rfl zzM2 ?_;with_reducible refine (Qi.calls a6 a7 l5 l6 _ s7.out).mono ?_
           rintro e x4 ⟨rfl,hb⟩;refine ⟨_,rfl,?_⟩;have a3:=zzm (Kd.R_below (by (with_reducible repeat (first|apply Kd.R_alloc|apply Kd.R_drewN|apply Kd.R_drew));exact a2.out) hb);have a4:=zzm (Kd.R_below (by (with_reducible repeat (first|apply Kd.R_alloc|apply Kd.R_drewN|apply Kd.R_drew));exact a1.out) hb);have a5:=zzm (Kd.R_below (by (with_reducible repeat (first|apply Kd.R_alloc|apply Kd.R_drewN|apply Kd.R_drew));exact d4.out) hb);have a8:=zzm (zzh (g:=b0) (o:=.cells #[.int .i64 a6,.int .i64 a7] 24 (0,0)) (zzE a0.out) hb);have b2:=zzm (zzp zzh2 hb);clear a2 a1 d4 a0 HB;have a2:=a3;have a1:=a4;have d4:=a5;have a0:=a8;have HB:=b2;clear a3 a4 a5 a8 b2
           (try clear hb)
           (try clear hb2)
           (try clear hk)
           (try clear hi);obtain ⟨r0,r1,eo67⟩:=Kd.R_slice d4.out
           (first|subst eo67|(injection eo67 with f1_ f2_ f3_;have f4_:=f1_.symm;have f5_:=f3_.symm;clear f1_ f2_ f3_;subst f4_;subst f5_));refine hK.out _ _ ⟨(zzk a0.out 0).trans rfl,(zzk a0.out 1).trans rfl⟩ (fun d9=>?_);clear hK K;refine zzO 83 ?_
           refine one_ (i:=4) (N:=some 84) (zzB 10 31) rfl rfl (one_of d6.out (by kernel_rfl)) (by decide) (fun K hK=>?_);refine goes_ Try.func8 (by kernel_rfl) rfl #[.slice r0 h8.length r1,.agg #[.int .i64 l5,.int .i64 l6]] (by rfl) rfl rfl zzM2 ?_;with_reducible refine (Qh.calls d1 _ _ h8 l5 l6 g2 m6 _ ?side1 ?side2 s8.out).mono ?_
           (case side1=>repeat (first|exact (Kd.R_reads' d4.out).2.2|(with_reducible refine Kd.C_alloc ?_ _)|(with_reducible refine Kd.C_drewN ?_ _)|(with_reducible refine Kd.C_drew ?_)))
           (case side2=>first|exact Nat.le_refl _|exact (Kd.R_reads' d4.out).2.1);rintro e x5 ⟨v3,rfl,ho0,hb⟩;refine ⟨_,rfl,?_⟩;have a3:=zzm (Kd.R_elder' (by (with_reducible repeat (first|apply Kd.R_alloc|apply Kd.R_drewN|apply Kd.R_drew));exact a2.out) (Kd.R_base ho0) hb);have a4:=zzm (Kd.R_elder' (by (with_reducible repeat (first|apply Kd.R_alloc|apply Kd.R_drewN|apply Kd.R_drew));exact a1.out) (Kd.R_base ho0) hb);have a5:=zzm (Kd.R_elder' (by (with_reducible repeat (first|apply Kd.R_alloc|apply Kd.R_drewN|apply Kd.R_drew));exact d4.out) (Kd.R_base ho0) hb);have a8:=zzm (Kd.R_lower (Kd.R_new' (Kd.R_new' (Kd.R_new' ho0 (Kd.R_lt (by (with_reducible repeat (first|apply Kd.R_alloc|apply Kd.R_drewN|apply Kd.R_drew));exact a2.out))) (Kd.R_lt (by (with_reducible repeat (first|apply Kd.R_alloc|apply Kd.R_drewN|apply Kd.R_drew));exact a1.out))) (Kd.R_lt (by (with_reducible repeat (first|apply Kd.R_alloc|apply Kd.R_drewN|apply Kd.R_drew));exact d4.out))) (zzo zzh2));have b2:=zzm (zzh (g:=b0) (o:=.cells #[.int .i64 a6,.int .i64 a7] 24 (0,0)) (zzE a0.out) hb);have b9:=zzm (zzp zzh2 hb);clear a2 a1 d4 a0 HB;have a2:=a3;have a1:=a4;have d4:=a5;have d8:=a8;have a0:=b2;have HB:=b9;clear a3 a4 a5 a8 b2 b9
           (try clear hb)
           (try clear hb2)
           (try clear hk)
           (try clear hi)
           (try clear ho0);refine hK.out _ _ ⟨(zzk a0.out 0).trans rfl,(zzk a0.out 1).trans rfl⟩ (fun d9=>?_);clear hK K;refine zzO 84 ?_
           refine zzP 5 79 10 63 d6 ?_
           refine zzP 6 85 10 127 d6 ?_
           refine zzP 7 86 10 255 d6 ?_
           refine zzP 8 14 10 511 d6 ?_
           refine zzP 9 15 10 1023 d6 ?_
           refine done_ (done_of d6.out (by kernel_rfl)) ?_;go_upto_region 25 with (fail);go_cut [95] (fun s9 wc=>∃ (kq:Nat) (h2:Bool),s9 = .bool h2∧Aside0 (laws_FnExactTermsPut.j2 kq b1 e0 h2=some r)∧Aside0 (kq≤d1)∧Aside0 (Kd.R k30 30 wc w.heap.size (fun _=>True) (.slice e5 a9.length g6) b1)∧Aside0 (wc.heap[b0]? = some (.cells #[.int .i64 a6,.int .i64 a7] 24 (0,0)))∧Aside0 (Below w.heap.size w wc))
           case first=>
            have H:=m7.out;clear m7;obtain ⟨g5,p8,H⟩:=zzG H;by_cases l9:g5=true
            ·
             subst l9;replace H:=zzIt H;have H':=zzm H;clear H;obtain ⟨r2,v4,eo71⟩:=Kd.R_slice d8.out;subst eo71;obtain ⟨r3,r4,eo72⟩:=Kd.R_slice a2.out;subst eo72;go_wp2_with (first|((with_reducible refine gate_callee (f:=9) rfl ?_);refine goesL_ (some 89) rfl rfl Try.func9 (by kernel_rfl) rfl #[.slice r2 g2.length g2.length,.slice r3 b6.length r4] rfl zzM2 ?_;(with_reducible refine (Qd.calls d1 _ _ g2 _ _ b6 true _ ?side1 ?side2 ?side3 ?side4 p8.out).mono ?_);(case side1=>repeat (first|exact (Kd.R_reads' d8.out).2.2|(with_reducible refine Kd.C_alloc ?_ _)|(with_reducible refine Kd.C_drewN ?_ _)|(with_reducible refine Kd.C_drew ?_)));(case side2=>first|exact Nat.le_refl _|exact (Kd.R_reads' d8.out).2.1);(case side3=>repeat (first|exact (Kd.R_reads' a2.out).2.2|(with_reducible refine Kd.C_alloc ?_ _)|(with_reducible refine Kd.C_drewN ?_ _)|(with_reducible refine Kd.C_drew ?_)));(case side4=>first|exact Nat.le_refl _|exact (Kd.R_reads' a2.out).2.1);rintro e x6 ⟨rfl,hb⟩;refine ⟨_,rfl,?_⟩;have a3:=zzm (Kd.R_below (by (with_reducible repeat (first|apply Kd.R_alloc|apply Kd.R_drewN|apply Kd.R_drew));exact a2.out) hb);have a4:=zzm (Kd.R_below (by (with_reducible repeat (first|apply Kd.R_alloc|apply Kd.R_drewN|apply Kd.R_drew));exact a1.out) hb);have a5:=zzm (Kd.R_below (by (with_reducible repeat (first|apply Kd.R_alloc|apply Kd.R_drewN|apply Kd.R_drew));exact d4.out) hb);have a8:=zzm (Kd.R_below (by (with_reducible repeat (first|apply Kd.R_alloc|apply Kd.R_drewN|apply Kd.R_drew));exact d8.out) hb);have b2:=zzm (zzh (g:=b0) (o:=.cells #[.int .i64 a6,.int .i64 a7] 24 (0,0)) (zzE a0.out) hb);have b9:=zzm (zzp zzh2 hb);clear a2 a1 d4 d8 a0 HB;have a2:=a3;have a1:=a4;have d4:=a5;have d8:=a8;have a0:=b2;have HB:=b9;clear a3 a4 a5 a8 b2 b9;(try clear hb);(try clear hb2);(try clear hk);(try clear hi)));go_meet
             case rel=>exact ⟨_,((m6 != d3)),(by first|rfl|(simp;done)|(simp [*];done)),H',⟨by have:=HJ11.out;have:=HJ36.out;first|omega|exact Nat.le_refl _⟩,⟨by (with_reducible repeat (first|apply Kd.R_alloc|apply Kd.R_drewN|apply Kd.R_drew));exact Kd.R_mono a1.out (fun _ hk=>trivial)⟩,⟨zzE a0.out⟩,⟨zzh3⟩⟩
            ·
             replace l9:=Bool.eq_false_iff.mpr l9;subst l9;replace H:=zzIf H;have H':=zzm H;clear H;obtain ⟨r5,v5,eo74⟩:=Kd.R_slice d8.out;subst eo74;obtain ⟨r6,r7,eo75⟩:=Kd.R_slice a2.out;subst eo75;go_wp2_with (first|((with_reducible refine gate_callee (f:=9) rfl ?_);refine goesL_ (some 89) rfl rfl Try.func9 (by kernel_rfl) rfl #[.slice r5 g2.length g2.length,.slice r6 b6.length r7] rfl zzM2 ?_;(with_reducible refine (Qd.calls d1 _ _ g2 _ _ b6 false _ ?side1 ?side2 ?side3 ?side4 p8.out).mono ?_);(case side1=>repeat (first|exact (Kd.R_reads' d8.out).2.2|(with_reducible refine Kd.C_alloc ?_ _)|(with_reducible refine Kd.C_drewN ?_ _)|(with_reducible refine Kd.C_drew ?_)));(case side2=>first|exact Nat.le_refl _|exact (Kd.R_reads' d8.out).2.1);(case side3=>repeat (first|exact (Kd.R_reads' a2.out).2.2|(with_reducible refine Kd.C_alloc ?_ _)|(with_reducible refine Kd.C_drewN ?_ _)|(with_reducible refine Kd.C_drew ?_)));(case side4=>first|exact Nat.le_refl _|exact (Kd.R_reads' a2.out).2.1);rintro e x7 ⟨rfl,hb⟩;refine ⟨_,rfl,?_⟩;have a3:=zzm (Kd.R_below (by (with_reducible repeat (first|apply Kd.R_alloc|apply Kd.R_drewN|apply Kd.R_drew));exact a2.out) hb);have a4:=zzm (Kd.R_below (by (with_reducible repeat (first|apply Kd.R_alloc|apply Kd.R_drewN|apply Kd.R_drew));exact a1.out) hb);have a5:=zzm (Kd.R_below (by (with_reducible repeat (first|apply Kd.R_alloc|apply Kd.R_drewN|apply Kd.R_drew));exact d4.out) hb);have a8:=zzm (Kd.R_below (by (with_reducible repeat (first|apply Kd.R_alloc|apply Kd.R_drewN|apply Kd.R_drew));exact d8.out) hb);have b2:=zzm (zzh (g:=b0) (o:=.cells #[.int .i64 a6,.int .i64 a7] 24 (0,0)) (zzE a0.out) hb);have b9:=zzm (zzp zzh2 hb);clear a2 a1 d4 d8 a0 HB;have a2:=a3;have a1:=a4;have d4:=a5;have d8:=a8;have a0:=b2;have HB:=b9;clear a3 a4 a5 a8 b2 b9;(try clear hb);(try clear hb2);(try clear hk);(try clear hi)));go_meet
             case rel=>exact ⟨_,(true),(by first|rfl|(simp;done)|(simp [*];done)),H',⟨by have:=HJ11.out;have:=HJ36.out;first|omega|exact Nat.le_refl _⟩,⟨by (with_reducible repeat (first|apply Kd.R_alloc|apply Kd.R_drewN|apply Kd.R_drew));exact Kd.R_mono a1.out (fun _ hk=>trivial)⟩,⟨zzE a0.out⟩,⟨zzh3⟩⟩
           case rest=>
            clear m7;try clear c1
            try clear c2
            try clear p2
            try clear c3
            try clear c4
            try clear k8
            try clear c5
            try clear c6
            try clear c7
            try clear c8
            try clear c9
            try clear s5
            try clear x8
            try clear j6
            try clear k3
            try clear k4
            try clear h9
            try clear e9
            try clear k5
            try clear l8
            try clear j8
            try clear n1
            try clear k6
            try clear n2
            try clear n3
            try clear l9
            try clear h4
            try clear h5
            try clear h6
            try clear h7
            try clear p2
            obtain ⟨kq,h2,rfl,HA,HJ60,a1,a0,HB⟩:=hcut;have k0:=(Kd.R_reads' a1.out).1;rw [k0] at a1
            (try simp only [k0])
            (try simp only [k0] at a0);cases kq with
            | zero=>exact absurd HA.out (by simp [laws_FnExactTermsPut.j2])
            | succ m8=>
             have H:=HA.out;clear HA;simp only [laws_FnExactTermsPut.j2] at H;by_cases n4:h2=true
             ·
              subst n4;replace H:=zzIt H;obtain rfl:=Option.some.inj H;go_wp2;go_ret;exact ⟨zzR,zzh3⟩
             ·
              replace n4:=Bool.eq_false_iff.mpr n4;subst n4;replace H:=zzIf H;obtain ⟨g7,o4,H⟩:=zzG H;by_cases k7:g7 < 0
              ·
               rw [if_pos k7] at H;have o6:decide (g7 < 0)=true:=decide_eq_true k7;clear k7;obtain rfl:=Option.some.inj H;go_wp2_with (first|((with_reducible refine gate_callee (f:=11) rfl ?_);refine goesL_ (some 98) rfl rfl Try.func11 (by kernel_rfl) rfl #[.slice e5 b1.length b1.length,.int .i64 1] rfl (by (try simp only [map_toArray,map_cons,map_nil]);first|done|(rw [show b1.length=a9.length from (Kd.R_reads' a1.out).1.symm] <;> rfl)|rfl|(simp only [length_drop,length_take];rfl)) ?_;(with_reducible refine (Qg.calls m8 _ _ b1 1 g7 _ ?side1 ?side2 o4.out).mono ?_);(case side1=>repeat (first|exact (Kd.R_reads' a1.out).2.2|(with_reducible refine Kd.C_alloc ?_ _)|(with_reducible refine Kd.C_drewN ?_ _)|(with_reducible refine Kd.C_drew ?_)));(case side2=>first|exact Nat.le_refl _|exact (Kd.R_reads' a1.out).2.1);rintro e w' ⟨rfl,⟨nd,rfl⟩⟩;refine ⟨_,rfl,?_⟩));go_ret;exact ⟨zzR,zzh3⟩
              ·
               rw [if_neg k7] at H;have o6:decide (g7 < 0)=false:=decide_eq_false k7;clear k7;by_cases m0:g7=e0
               ·
                rw [if_pos m0] at H;obtain ⟨o7,o8⟩:=zzQ m0;clear m0;obtain rfl:=Option.some.inj H;go_wp2_with (first|((with_reducible refine gate_callee (f:=11) rfl ?_);refine goesL_ (some 98) rfl rfl Try.func11 (by kernel_rfl) rfl #[.slice e5 b1.length b1.length,.int .i64 1] rfl (by (try simp only [map_toArray,map_cons,map_nil]);first|done|(rw [show b1.length=a9.length from (Kd.R_reads' a1.out).1.symm] <;> rfl)|rfl|(simp only [length_drop,length_take];rfl)) ?_;(with_reducible refine (Qg.calls m8 _ _ b1 1 g7 _ ?side1 ?side2 o4.out).mono ?_);(case side1=>repeat (first|exact (Kd.R_reads' a1.out).2.2|(with_reducible refine Kd.C_alloc ?_ _)|(with_reducible refine Kd.C_drewN ?_ _)|(with_reducible refine Kd.C_drew ?_)));(case side2=>first|exact Nat.le_refl _|exact (Kd.R_reads' a1.out).2.1);rintro e w' ⟨rfl,⟨nd,rfl⟩⟩;refine ⟨_,rfl,?_⟩));go_ret;exact ⟨zzR,zzh3⟩
               ·
                rw [if_neg m0] at H;obtain ⟨o7,o8⟩:=zzY m0;obtain rfl:=Option.some.inj H;go_wp2_with (first|((with_reducible refine gate_callee (f:=11) rfl ?_);refine goesL_ (some 98) rfl rfl Try.func11 (by kernel_rfl) rfl #[.slice e5 b1.length b1.length,.int .i64 1] rfl (by (try simp only [map_toArray,map_cons,map_nil]);first|done|(rw [show b1.length=a9.length from (Kd.R_reads' a1.out).1.symm] <;> rfl)|rfl|(simp only [length_drop,length_take];rfl)) ?_;(with_reducible refine (Qg.calls m8 _ _ b1 1 g7 _ ?side1 ?side2 o4.out).mono ?_);(case side1=>repeat (first|exact (Kd.R_reads' a1.out).2.2|(with_reducible refine Kd.C_alloc ?_ _)|(with_reducible refine Kd.C_drewN ?_ _)|(with_reducible refine Kd.C_drew ?_)));(case side2=>first|exact Nat.le_refl _|exact (Kd.R_reads' a1.out).2.1);rintro e w' ⟨rfl,⟨nd,rfl⟩⟩;refine ⟨_,rfl,?_⟩));go_ret;exact ⟨zzR,zzh3⟩
          ·
           rw [if_neg k6] at H;obtain ⟨n2,n3⟩:=zzY k6;obtain rfl:=Option.some.inj H;obtain ⟨k1,l7,eo81⟩:=Kd.R_slice a1.out;subst eo81;go_wp2_with (first|((with_reducible refine gate_callee (f:=10) rfl ?_);refine goesL_ (some 70) rfl rfl Try.func10 (by kernel_rfl) rfl #[cl (.slice k1 a9.length l7),.int .i64 1] rfl zzM2 ?_;(with_reducible refine (Qe.calls2 d1 (fun k_=>some k_=(.slice k1 a9.length l7:Value).ownBlock) (.slice k1 a9.length l7) a9 1 e0 b1 w _ ?side1 ?side2 o0.out).mono ?_);(case side1=>repeat (first|(with_reducible first|exact HB.out|apply zza|apply zzb|apply zzc|refine zzd ?_ g8.out)|exact HB.out));(case side2=>exact Kd.R_tight rfl a1.out);rintro e x9 ⟨rfl,hy0,hb,hkp⟩;refine ⟨_,rfl,?_⟩;have a3:=zzm (Kd.R_mono (ok':=fun k_=>some k_≠(.slice k1 a9.length l7:Value).ownBlock) (Kd.R_keptB (a2.out) hkp (fun k_ hk_ hs_=>(hk_) hs_)) (fun k_ hk_=>hk_.1));have a4:=zzm (Kd.R_reok rfl hy0 (fun k_ e_=>a1.out.1 k_ e_));have a5:=zzm (blk_kept (zzE a0.out) hkp (fun hs_=>(fun e_=>(Kd.R_ne a1.out a0.out (by decide)) e_) hs_));have a8:=zzm (hb);clear a2 a1 a0 HB;have a2:=a3;have a1:=a4;have a0:=a5;have HB:=a8;clear a3 a4 a5 a8;(try clear hb);(try clear hkp);(try clear hy0))|((with_reducible refine gate_callee (f:=11) rfl ?_);refine goesL_ (some 73) rfl rfl Try.func11 (by kernel_rfl) rfl #[.slice k1 b1.length b1.length,.int .i64 1] rfl (by (try simp only [map_toArray,map_cons,map_nil]);first|done|(rw [show b1.length=a9.length from (Kd.R_reads' a1.out).1.symm] <;> rfl)|rfl|(simp only [length_drop,length_take];rfl)) ?_;(with_reducible refine (Qg.calls d1 _ _ b1 1 e7 _ ?side1 ?side2 o1.out).mono ?_);(case side1=>repeat (first|exact (Kd.R_reads' a1.out).2.2|(with_reducible refine Kd.C_alloc ?_ _)|(with_reducible refine Kd.C_drewN ?_ _)|(with_reducible refine Kd.C_drew ?_)));(case side2=>first|exact Nat.le_refl _|(rw [show b1.length=a9.length from (Kd.R_reads' a1.out).1.symm];exact (Kd.R_reads' a1.out).2.1));rintro e w' ⟨rfl,⟨nd,rfl⟩⟩;refine ⟨_,rfl,?_⟩));go_ret;exact ⟨zzR,zzh3⟩
     ·
      replace k4:=Bool.eq_false_iff.mpr k4;subst k4;replace H:=zzIf H;obtain rfl:=Option.some.inj H;go_wp2_with (first|((with_reducible refine gate_callee (f:=6) rfl ?_);refine goesL_ (some 49) rfl rfl Try.func6 (by kernel_rfl) rfl #[.slice A0 l0.length c0] rfl zzM2 ?_;(with_reducible refine (Qf.calls e3 _ _ l0 g1 _ ?side1 ?side2 p5.out).mono ?_);(case side1=>exact zzcb j4 HB);(case side2=>exact j5.out);rintro e y0 ⟨q9,rfl,ho0,hb⟩;refine ⟨_,rfl,?_⟩;have a3:=zzm (Kd.R_elder' (by (with_reducible repeat (first|apply Kd.R_alloc|apply Kd.R_drewN|apply Kd.R_drew));exact a2.out) (Kd.R_base ho0) hb);have a4:=zzm (Kd.R_elder' (by (with_reducible repeat (first|apply Kd.R_alloc|apply Kd.R_drewN|apply Kd.R_drew));exact b8.out) (Kd.R_base ho0) hb);have a5:=zzm (Kd.R_elder' (by (with_reducible repeat (first|apply Kd.R_alloc|apply Kd.R_drewN|apply Kd.R_drew));exact a1.out) (Kd.R_base ho0) hb);have a8:=zzm (Kd.R_lower (Kd.R_new' (Kd.R_new' (Kd.R_new' ho0 (Kd.R_lt (by (with_reducible repeat (first|apply Kd.R_alloc|apply Kd.R_drewN|apply Kd.R_drew));exact a2.out))) (Kd.R_lt (by (with_reducible repeat (first|apply Kd.R_alloc|apply Kd.R_drewN|apply Kd.R_drew));exact b8.out))) (Kd.R_lt (by (with_reducible repeat (first|apply Kd.R_alloc|apply Kd.R_drewN|apply Kd.R_drew));exact a1.out))) (zzo zzh2));have b2:=zzm (zzh (g:=b0) (o:=.cells #[.int .i64 a6,.int .i64 a7] 24 (0,0)) (zzE a0.out) hb);have b9:=zzm (zzp zzh2 hb);clear a2 b8 a1 a0 HB;have a2:=a3;have b8:=a4;have a1:=a5;have d0:=a8;have a0:=b2;have HB:=b9;clear a3 a4 a5 a8 b2 b9;(try clear hb);(try clear hb2);(try clear hk);(try clear hi);(try clear ho0);obtain ⟨r8,r9,eo84⟩:=Kd.R_slice d0.out;subst eo84)|((with_reducible refine gate_callee (f:=9) rfl ?_);refine goesL_ (some 50) rfl rfl Try.func9 (by kernel_rfl) rfl #[.slice e1 b3.length e2,.slice r8 g1.length r9] rfl zzM2 ?_;(with_reducible refine (Qd.calls e3 _ _ b3 _ _ g1 false _ ?side1 ?side2 ?side3 ?side4 p6.out).mono ?_);(case side1=>repeat (first|exact (Kd.R_reads' b8.out).2.2|(with_reducible refine Kd.C_alloc ?_ _)|(with_reducible refine Kd.C_drewN ?_ _)|(with_reducible refine Kd.C_drew ?_)));(case side2=>first|exact Nat.le_refl _|exact (Kd.R_reads' b8.out).2.1);(case side3=>repeat (first|exact (Kd.R_reads' d0.out).2.2|(with_reducible refine Kd.C_alloc ?_ _)|(with_reducible refine Kd.C_drewN ?_ _)|(with_reducible refine Kd.C_drew ?_)));(case side4=>first|exact Nat.le_refl _|exact (Kd.R_reads' d0.out).2.1);rintro e y1 ⟨rfl,hb⟩;refine ⟨_,rfl,?_⟩;have a3:=zzm (Kd.R_below (by (with_reducible repeat (first|apply Kd.R_alloc|apply Kd.R_drewN|apply Kd.R_drew));exact a2.out) hb);have a4:=zzm (Kd.R_below (by (with_reducible repeat (first|apply Kd.R_alloc|apply Kd.R_drewN|apply Kd.R_drew));exact b8.out) hb);have a5:=zzm (Kd.R_below (by (with_reducible repeat (first|apply Kd.R_alloc|apply Kd.R_drewN|apply Kd.R_drew));exact a1.out) hb);have a8:=zzm (Kd.R_below (by (with_reducible repeat (first|apply Kd.R_alloc|apply Kd.R_drewN|apply Kd.R_drew));exact d0.out) hb);have b2:=zzm (zzh (g:=b0) (o:=.cells #[.int .i64 a6,.int .i64 a7] 24 (0,0)) (zzE a0.out) hb);have b9:=zzm (zzp zzh2 hb);clear a2 b8 a1 d0 a0 HB;have a2:=a3;have b8:=a4;have a1:=a5;have d0:=a8;have a0:=b2;have HB:=b9;clear a3 a4 a5 a8 b2 b9;(try clear hb);(try clear hb2);(try clear hk);(try clear hi)));go_ret;exact ⟨zzR,zzh3⟩
end Go.Proofs.Ytelicmnacflblaa.T
namespace Go.Proofs.Ytelicmnacflblaa.Q
open Go.RowKit Go.Proofs.YtelicmnacflblaaW.PrintWords
def Opens {α:Type} (P:Program) (d:Kd α) (t:TypeId) (WF : α→Prop):Prop:=
 ∀ (H:Type) (enc:TypeId×Value→H) (w:World) (base:Nat) (spare:Nat→Bool) (held:Bool) (fuel:Nat) (cs:List Value) (x:DataW H×List MemPlace),DataW.trod enc P w base spare held fuel t cs=some x→∃ v : α,d.K w v cs∧WF v
theorem Opens.int {P:Program} {t:TypeId} {k:IntKind} (ht:P.underlying t=some (.int k)):Opens P (Kd.int k) t (fun n=>(Lit.int k n).wf=true):=by
 intro H enc w base spare held fuel cs x h
 obtain ⟨n,rfl,_,hw⟩:=DataW.trod_int ht h
 exact ⟨n,rfl,hw⟩
theorem Opens.iso {α β:Type} {P:Program} {t:TypeId} {d:Kd α} {WF : α→Prop} {f : β→α} (h:Opens P d t WF) (g : α→β) (hg:∀ a,f (g a)=a):Opens P (Kd.iso d f) t (fun b=>WF (f b)):=by
 intro H enc w base spare held fuel cs x hx
 obtain ⟨v,hv,hw⟩:=h H enc w base spare held fuel cs x hx
 exact ⟨g v,by show d.K w (f (g v)) cs;rw [hg];exact hv,by show WF (f (g v));rw [hg];exact hw⟩
theorem list_of {α:Type} {Q:Nat→α→Prop} : ∀ (n:Nat),(∀ i,i < n→∃ v,Q i v)→∃ l:List α,l.length=n∧∀ j p,l[j]? = some p→Q j p
 | 0,_=>⟨[],rfl,fun j p h=>by simp at h⟩
 | n+1,h=>by
  obtain ⟨l,hl,hq⟩:=list_of n (fun i hi=>h i (by omega))
  obtain ⟨v,hv⟩:=h n (by omega)
  refine ⟨l ++ [v],by simp [hl],fun j p hj=>?_⟩
  rcases Nat.lt_or_ge j l.length with h1|h1
  ·rw [List.getElem?_append_left h1] at hj
   exact hq j p hj
  ·rw [List.getElem?_append_right h1] at hj
   have h2:j - l.length=0:=by
    have:=(List.getElem?_eq_some_iff.1 hj).1
    simp at this
    omega
   rw [h2] at hj
   simp at hj
   subst hj
   have:j=n:=by omega
   subst this
   exact hv
theorem cells_get {w:World} {base:Nat} {a:Addr} {n:Nat} {cs:List Value} (h:w.cells? base a n=some cs):cs.length=n∧∀ (i:Nat) (u:Value),cs[i]? = some u→w.cell? (a.add i)=some u:=by
 unfold World.cells? at h
 split at h
 ·have hl:cs.length=n:=by simpa using mapM_some_length h
  refine ⟨hl,fun i u hu=>?_⟩
  have hi:i < cs.length:=(List.getElem?_eq_some_iff.1 hu).1
  have:=mapM_some_get h i i (by rw [List.getElem?_range (by omega)])
  rw [this,hu]
 ·cases h
theorem add_add' (a:Addr) (x y:Nat):(a.add x).add y=a.add (x+y):=by
 by_cases hx:x=0 <;> by_cases hy:y=0 <;> simp [Addr.add,hx,hy,Nat.add_assoc]
theorem Opens.slice {α:Type} {P:Program} {t e:TypeId} {d:Kd α} {WF : α→Prop} (ht:P.underlying t=some (.slice e)) (h:Opens P d e WF) (hs:P.cellsOf e=d.sz):Opens P (Kd.slice e d) t (fun l=>l.length≤maxLen∧∀ v∈l,WF v):=by
 intro H enc w base spare held fuel cs x hx
 rcases Go.Deep.open_slice ht hx with ⟨rfl,_⟩|⟨a,len,cap,m,n,D,Pl,rfl,hb,hl,hm,hmm,_,hi⟩
 ·exact ⟨[],⟨none,0,rfl,Nat.le_refl _,rfl,by simp,fun h=>by simp at h⟩,by simp,fun v hv=>by simp at hv⟩
 ·have hlm:len≤m:=by rw [hmm];split <;> omega
  obtain ⟨l,hll,hq⟩:=list_of (Q:=fun i v=>∃ c,w.cells? base (a.add (i * P.cellsOf e)) (P.cellsOf e)=some c∧d.K w v c∧WF v) len (fun i hlt=>by
   obtain ⟨c,hc,hd⟩:=hi i (by omega)
   obtain ⟨v,hv,hw⟩:=h H enc w base spare held n c _ hd
   exact ⟨v,c,hc,hv,hw⟩)
  subst hll
  refine ⟨l,⟨some a,cap,rfl,hl,rfl,by unfold maxLen at hm;omega,fun _=>⟨a,rfl,fun j p hj=>?_⟩⟩,Nat.le_trans hl hm,fun v hv=>?_⟩
  ·obtain ⟨c,hc,hk,_⟩:=hq j p hj
   obtain ⟨h1,h2⟩:=cells_get hc
   refine ⟨c,by rw [h1,hs],hk,fun i u hu=>?_⟩
   rw [← hs,← add_add']
   exact h2 i u hu
  ·obtain ⟨j,hj,rfl⟩:=List.getElem_of_mem hv
   obtain ⟨_,_,_,hw⟩:=hq j _ (List.getElem?_eq_getElem hj)
   exact hw
def OpensFs {α:Type} (P:Program) (o:Nat) (fs:List Field) (d:Kd α) (WF : α→Prop):Prop:=
 ∀ (H:Type) (enc:TypeId×Value→H) (w:World) (base:Nat) (spare:Nat→Bool) (held:Bool) (fuel:Nat) (cs:List Value),(∀ f∈fs,∃ x:DataW H×List MemPlace,DataW.trod enc P w base spare held fuel f.type ((cs.drop f.offset).take (P.cellsOf f.type))=some x)→cs.length=o+d.sz→∃ v : α,d.K w v (cs.drop o)∧WF v
theorem OpensFs.one {α:Type} {P:Program} {o:Nat} {f:Field} {d:Kd α} {WF : α→Prop} (ho:f.offset=o) (hs:P.cellsOf f.type=d.sz) (h:Opens P d f.type WF):OpensFs P o [f] d WF:=by
 intro H enc w base spare held fuel cs hx hl
 obtain ⟨x,hx⟩:=hx f (by simp)
 rw [ho,hs,List.take_of_length_le (by rw [length_drop];omega)] at hx
 exact h H enc w base spare held fuel _ x hx
theorem OpensFs.cons {α β:Type} {P:Program} {o:Nat} {f:Field} {fs:List Field} {d:Kd α} {d' : Kd β} {WF : α→Prop} {WF' : β→Prop} (ho:f.offset=o) (hs:P.cellsOf f.type=d.sz) (h:Opens P d f.type WF) (h' : OpensFs P (o+d.sz) fs d' WF'):OpensFs P o (f::fs) (Kd.pair d d') (fun p=>WF p.1∧WF' p.2):=by
 intro H enc w base spare held fuel cs hx hl
 obtain ⟨x,hx0⟩:=hx f (by simp)
 rw [ho,hs] at hx0
 obtain ⟨v,hv,hw⟩:=h H enc w base spare held fuel _ x hx0
 have hl' : cs.length=o+d.sz+d'.sz:=by rw [hl];exact (Nat.add_assoc _ _ _).symm
 obtain ⟨v',hv',hw'⟩:=h' H enc w base spare held fuel cs (fun f' hf'=>hx f' (List.mem_cons_of_mem _ hf')) hl'
 refine ⟨(v,v'),⟨(cs.drop o).take d.sz,cs.drop (o+d.sz),?_,hv,hv'⟩,hw,hw'⟩
 rw [← List.drop_drop,List.take_append_drop]
theorem Opens.struct {α:Type} {P:Program} {t:TypeId} {fs:Array Field} {d:Kd α} {WF : α→Prop} (ht:P.underlying t=some (.struct fs)) (hs:P.cellsOf t=d.sz) (h:OpensFs P 0 fs.toList d WF):Opens P d t WF:=by
 intro H enc w base spare held fuel cs x hx
 obtain ⟨xs,n,_,_,hl,hxs,hf⟩:=DataW.trod_struct ht hx
 refine h H enc w base spare held n cs (fun f hfm=>?_) (by rw [hl,hs,Nat.zero_add])
 obtain ⟨i,hi,rfl⟩:=List.getElem_of_mem hfm
 have hi' : i < fs.size:=by simpa using hi
 have:=hf i fs[i] (Array.getElem?_eq_getElem hi')
 rw [List.getElem?_eq_getElem (by omega)] at this
 exact ⟨_,by simpa using this⟩
end Go.Proofs.Ytelicmnacflblaa.Q
namespace Go.Proofs.Ytelicmnacflblaa.T
open Go.RowKit Go.Proofs.YtelicmnacflblaaW.PrintWords
set_option linter.unusedVariables false
def WF24 (x:S24):Prop:=(Lit.int .i64 x.f0).wf=true∧(Lit.int .i64 x.f1).wf=true
theorem opens24:Q.Opens Try.prog k24 24 WF24:=
 Q.Opens.iso (Q.Opens.struct Try.underlying24 (by kernel_rfl) (Q.OpensFs.cons rfl (by kernel_rfl) (Q.Opens.int Try.underlying3) (Q.OpensFs.one rfl (by kernel_rfl) (Q.Opens.int Try.underlying3)))) (fun p=>⟨p.1,p.2⟩) (fun _=>rfl)
end Go.Proofs.Ytelicmnacflblaa.T
namespace Go.Proofs.Ytelicmnacflblaa.Q
open Go.RowKit Go.Proofs.YtelicmnacflblaaW.PrintWords
set_option linter.unusedVariables false
set_option linter.unusedSimpArgs false
theorem ev_succ {α:Type} {g:Nat→Option α} {r : α} (h:Ev (fun k=>g (k+1)) r):Ev g r:=Ev.step (f:=fun k=>g (k+1)) (fun _=>rfl) h
theorem ev_of_all {α:Type} {g:Nat→Option α} {r : α} (h:∀ k,g k=some r):Ev g r:=⟨0,fun k _=>h k⟩
theorem ev_some {α:Type} (r : α):Ev (fun _=>some r) r:=ev_of_all fun _=>rfl
theorem bsome {α β:Type} (a : α) (f : α→Option β):(some a).bind f=f a:=Eq.trans (Option.bind_some a f) (Eq.refl _)
end Go.Proofs.Ytelicmnacflblaa.Q
namespace Go.Proofs.Ytelicmnacflblaa.Q
open Go.RowKit Go.Proofs.Ytelicmnacflblaa.T Go.Proofs.YtelicmnacflblaaW.PrintWords Go.Proofs.YtelicmnacflblaaW.PrintLast
set_option linter.unusedVariables false
set_option linter.unusedSimpArgs false
theorem wrap_id {x:Int} (h0 : -9223372036854775808≤x) (h1:x < 9223372036854775808):wrap64 x=x:=by unfold wrap64;omega
abbrev Tm:=S30
abbrev rt (l:List Tm) (i:Int):Tm:=Qa l i
theorem rt_nat (l:List Tm) (j:Nat) (h:j < l.length):rt l (j:Int)=l[j]:=by
 unfold rt Qa
 rw [Int.toNat_natCast,List.getD_eq_getElem?_getD,List.getElem?_eq_getElem h]
 rfl
def okT (t:Tm):Prop:=0≤t.f0∧t.f0≤999∧0≤t.f1∧t.f1≤99999
instance (t:Tm):Decidable (okT t):=by unfold okT;infer_instance
def ltT (a b:Tm):Prop:=a.f0 < b.f0∧a.f1 < b.f1
instance (a b:Tm):Decidable (ltT a b):=by unfold ltT;infer_instance
def VF (l:List Tm) (i:Nat):Prop:=∀ j,i≤j→j < l.length→okT (rt l j)∧(0 < j→ltT (rt l ((j:Int) - 1)) (rt l j))
def VT (l:List Tm):Prop:=l.length≤8∧VF l 0
theorem VF_end {l:List Tm} {i:Nat} (h:l.length≤i):VF l i:=fun j h1 h2=>by omega
theorem VF_step {l:List Tm} {i:Nat} (h:i < l.length):VF l i↔(okT (rt l i)∧(0 < i→ltT (rt l ((i:Int) - 1)) (rt l i)))∧VF l (i+1):=by
 constructor
 ·intro hv
  exact ⟨hv i (Nat.le_refl _) h,fun j h1 h2=>hv j (by omega) h2⟩
 ·rintro ⟨h1,h2⟩ j h3 h4
  by_cases e:j=i
  ·subst e;exact h1
  ·exact h2 j (by omega) h4
theorem Qp (a b c:Int):Qj.f a b c=some (decide (b≤a∧a≤c)):=by
 unfold Qj.f
 by_cases h:a ≥ b
 ·rw [if_pos h]
  have:(b≤a∧a≤c)↔a≤c:=⟨fun h=>h.2,fun h'=>⟨h,h'⟩⟩
  simp [this]
 ·rw [if_neg h]
  have:¬ (b≤a∧a≤c):=fun h'=>h h'.1
  simp [this]
theorem Qr (a b c:Int):Qk.f a b c=some (decide (b≤a∧a≤c)):=by
 unfold Qk.f
 by_cases h:a ≥ b
 ·rw [if_pos h]
  have:(b≤a∧a≤c)↔a≤c:=⟨fun h=>h.2,fun h'=>⟨h,h'⟩⟩
  simp [this]
 ·rw [if_neg h]
  have:¬ (b≤a∧a≤c):=fun h'=>h h'.1
  simp [this]
theorem implValid_loop (l:List Tm) (hl:l.length≤1000000000000):∀ (d i:Nat),l.length - i=d→i≤l.length→∃ b,Ev (fun k=>Qc.l0 k l l (l.length:Int) (i:Int)) b∧(b=true↔VF l i):=by
 intro d
 induction d with
 | zero=>
  intro i hd hi
  refine ⟨true,ev_succ ?_,by simp;exact VF_end (by omega)⟩
  simp only [Qc.l0,if_neg (show ¬ (i:Int) < (l.length:Int) by omega)]
  exact ev_some _
 | succ d ih=>
  intro i hd hi
  have hlt:(i:Int) < (l.length:Int):=by omega
  obtain ⟨b,hb,hb2⟩:=ih (i+1) (by omega) (by omega)
  have e1:wrap64 ((i:Int)+1)=((i+1:Nat):Int):=by rw [wrap_id (by omega) (by omega)];omega
  rw [VF_step (show i < l.length by omega)]
  by_cases k1 : 0≤(rt l i).f0∧(rt l i).f0≤999
  ·by_cases k2 : 0≤(rt l i).f1∧(rt l i).f1≤99999
   ·have hok:okT (rt l i):=⟨k1.1,k1.2,k2.1,k2.2⟩
    by_cases h0 : 0 < i
    ·have e2:wrap64 ((i:Int) - 1)=(i:Int) - 1:=wrap_id (by omega) (by omega)
     by_cases k3:(rt l ((i:Int) - 1)).f0 ≥ (rt l i).f0
     ·refine ⟨false,ev_succ ?_,?_⟩
      ·simp only [Qc.l0,if_pos hlt,if_pos (show (0:Int)≤i by omega),Qp,bsome,decide_eq_true_eq,if_pos k1,decide_eq_true k2,Bool.not_true]
       refine ev_succ ?_
       simp only [Qc.j1,if_neg (show ¬ (false=true) by decide),if_pos (show (i:Int) > 0 by omega),e2,if_pos (show 0≤(i:Int) - 1 by omega),if_pos (show (i:Int) - 1 < (l.length:Int) by omega),if_pos k3]
       exact ev_some _
      ·simp only [Bool.false_eq_true,false_iff]
       rintro ⟨⟨_,h3⟩,_⟩
       have:=(h3 h0).1
       omega
     ·by_cases k4:(rt l ((i:Int) - 1)).f1 ≥ (rt l i).f1
      ·refine ⟨false,ev_succ ?_,?_⟩
       ·simp only [Qc.l0,if_pos hlt,if_pos (show (0:Int)≤i by omega),Qp,bsome,decide_eq_true_eq,if_pos k1,decide_eq_true k2,Bool.not_true]
        refine ev_succ ?_
        simp only [Qc.j1,if_neg (show ¬ (false=true) by decide),if_pos (show (i:Int) > 0 by omega),e2,if_pos (show 0≤(i:Int) - 1 by omega),if_pos (show (i:Int) - 1 < (l.length:Int) by omega),if_neg k3,if_pos k4]
        exact ev_some _
       ·simp only [Bool.false_eq_true,false_iff]
        rintro ⟨⟨_,h3⟩,_⟩
        have:=(h3 h0).2
        omega
      ·refine ⟨b,ev_succ ?_,?_⟩
       ·simp only [Qc.l0,if_pos hlt,if_pos (show (0:Int)≤i by omega),Qp,bsome,decide_eq_true_eq,if_pos k1,decide_eq_true k2,Bool.not_true]
        refine ev_succ ?_
        simp only [Qc.j1,if_neg (show ¬ (false=true) by decide),if_pos (show (i:Int) > 0 by omega),e2,if_pos (show 0≤(i:Int) - 1 by omega),if_pos (show (i:Int) - 1 < (l.length:Int) by omega),if_neg k3,if_neg k4,e1]
        exact hb
       ·rw [hb2]
        exact ⟨fun h=>⟨⟨hok,fun _=>⟨by omega,by omega⟩⟩,h⟩,fun h=>h.2⟩
    ·refine ⟨b,ev_succ ?_,?_⟩
     ·simp only [Qc.l0,if_pos hlt,if_pos (show (0:Int)≤i by omega),Qp,bsome,decide_eq_true_eq,if_pos k1,decide_eq_true k2,Bool.not_true]
      refine ev_succ ?_
      simp only [Qc.j1,if_neg (show ¬ (false=true) by decide),if_neg (show ¬ (i:Int) > 0 by omega),e1]
      exact hb
     ·rw [hb2]
      exact ⟨fun h=>⟨⟨hok,fun h'=>absurd h' h0⟩,h⟩,fun h=>h.2⟩
   ·refine ⟨false,ev_succ ?_,?_⟩
    ·simp only [Qc.l0,if_pos hlt,if_pos (show (0:Int)≤i by omega),Qp,bsome,decide_eq_true_eq,if_pos k1,decide_eq_false k2,Bool.not_false]
     refine ev_succ ?_
     simp only [Qc.j1,if_true]
     exact ev_some _
    ·simp only [Bool.false_eq_true,false_iff]
     rintro ⟨⟨h3,_⟩,_⟩
     exact k2 ⟨h3.2.2.1,h3.2.2.2⟩
  ·refine ⟨false,ev_succ ?_,?_⟩
   ·simp only [Qc.l0,if_pos hlt,if_pos (show (0:Int)≤i by omega),Qp,bsome,decide_eq_true_eq,if_neg k1]
    refine ev_succ ?_
    simp only [Qc.j1,if_true]
    exact ev_some _
   ·simp only [Bool.false_eq_true,false_iff]
    rintro ⟨⟨h3,_⟩,_⟩
    exact k1 ⟨h3.1,h3.2.1⟩
theorem implValid_ev (l:List Tm) (hl:l.length≤1000000000000):∃ b,Ev (fun k=>Qc.f k l) b∧(b=true↔VT l):=by
 unfold Qc.f
 by_cases h:(l.length:Int) > 8
 ·refine ⟨false,?_,?_⟩
  ·simp only [if_pos h];exact ev_some _
  ·simp only [Bool.false_eq_true,false_iff]
   rintro ⟨h2,_⟩
   omega
 ·obtain ⟨b,hb,hb2⟩:=implValid_loop l hl l.length 0 (by omega) (by omega)
  refine ⟨b,?_,?_⟩
  ·simp only [if_neg h];exact hb
  ·rw [hb2]
   exact ⟨fun h'=>⟨by omega,h'⟩,fun h'=>h'.2⟩
theorem specValid_loop (l:List Tm) (hl:l.length≤1000000000000):∀ (d i:Nat),l.length - i=d→i≤l.length→∃ b,Ev (fun k=>Qb.l0 k l (i:Int)) b∧(b=true↔(l.length≤8∧VF l i)):=by
 intro d
 induction d with
 | zero=>
  intro i hd hi
  refine ⟨decide ((l.length:Int)≤8),ev_succ ?_,?_⟩
  ·simp only [Qb.l0,if_neg (show ¬ (i:Int) < (l.length:Int) by omega)]
   exact ev_some _
  ·simp only [decide_eq_true_eq]
   exact ⟨fun h=>⟨by omega,VF_end (by omega)⟩,fun h=>by have:=h.1;omega⟩
 | succ d ih=>
  intro i hd hi
  have hlt:(i:Int) < (l.length:Int):=by omega
  obtain ⟨b,hb,hb2⟩:=ih (i+1) (by omega) (by omega)
  have e1:wrap64 ((i:Int)+1)=((i+1:Nat):Int):=by rw [wrap_id (by omega) (by omega)];omega
  rw [VF_step (show i < l.length by omega)]
  by_cases k1 : 0≤(rt l i).f0∧(rt l i).f0≤999
  ·by_cases k2 : 0≤(rt l i).f1∧(rt l i).f1≤99999
   ·have hok:okT (rt l i):=⟨k1.1,k1.2,k2.1,k2.2⟩
    by_cases h0 : 0 < i
    ·have e2:wrap64 ((i:Int) - 1)=(i:Int) - 1:=wrap_id (by omega) (by omega)
     by_cases k3:(rt l ((i:Int) - 1)).f0 ≥ (rt l i).f0
     ·refine ⟨false,ev_succ ?_,?_⟩
      ·simp only [Qb.l0,if_pos hlt,if_pos (show (0:Int)≤i by omega),Qr,bsome,decide_eq_true_eq,if_pos k1,if_pos k2,if_pos (show (i:Int) > 0 by omega),e2,if_pos (show 0≤(i:Int) - 1 by omega),if_pos (show (i:Int) - 1 < (l.length:Int) by omega),if_pos k3]
       exact ev_some _
      ·simp only [Bool.false_eq_true,false_iff]
       rintro ⟨_,⟨_,h3⟩,_⟩
       have:=(h3 h0).1
       omega
     ·by_cases k4:(rt l ((i:Int) - 1)).f1 ≥ (rt l i).f1
      ·refine ⟨false,ev_succ ?_,?_⟩
       ·simp only [Qb.l0,if_pos hlt,if_pos (show (0:Int)≤i by omega),Qr,bsome,decide_eq_true_eq,if_pos k1,if_pos k2,if_pos (show (i:Int) > 0 by omega),e2,if_pos (show 0≤(i:Int) - 1 by omega),if_pos (show (i:Int) - 1 < (l.length:Int) by omega),if_neg k3,if_pos k4]
        exact ev_some _
       ·simp only [Bool.false_eq_true,false_iff]
        rintro ⟨_,⟨_,h3⟩,_⟩
        have:=(h3 h0).2
        omega
      ·refine ⟨b,ev_succ ?_,?_⟩
       ·simp only [Qb.l0,if_pos hlt,if_pos (show (0:Int)≤i by omega),Qr,bsome,decide_eq_true_eq,if_pos k1,if_pos k2,if_pos (show (i:Int) > 0 by omega),e2,if_pos (show 0≤(i:Int) - 1 by omega),if_pos (show (i:Int) - 1 < (l.length:Int) by omega),if_neg k3,if_neg k4,e1]
        exact hb
       ·rw [hb2]
        exact ⟨fun h=>⟨h.1,⟨hok,fun _=>⟨by omega,by omega⟩⟩,h.2⟩,fun h=>⟨h.1,h.2.2⟩⟩
    ·refine ⟨b,ev_succ ?_,?_⟩
     ·simp only [Qb.l0,if_pos hlt,if_pos (show (0:Int)≤i by omega),Qr,bsome,decide_eq_true_eq,if_pos k1,if_pos k2,if_neg (show ¬ (i:Int) > 0 by omega),e1]
      exact hb
     ·rw [hb2]
      exact ⟨fun h=>⟨h.1,⟨hok,fun h'=>absurd h' h0⟩,h.2⟩,fun h=>⟨h.1,h.2.2⟩⟩
   ·refine ⟨false,ev_succ ?_,?_⟩
    ·simp only [Qb.l0,if_pos hlt,if_pos (show (0:Int)≤i by omega),Qr,bsome,decide_eq_true_eq,if_pos k1,if_neg k2]
     exact ev_some _
    ·simp only [Bool.false_eq_true,false_iff]
     rintro ⟨_,⟨h3,_⟩,_⟩
     exact k2 ⟨h3.2.2.1,h3.2.2.2⟩
  ·refine ⟨false,ev_succ ?_,?_⟩
   ·simp only [Qb.l0,if_pos hlt,if_pos (show (0:Int)≤i by omega),Qr,bsome,decide_eq_true_eq,if_neg k1]
    exact ev_some _
   ·simp only [Bool.false_eq_true,false_iff]
    rintro ⟨_,⟨h3,_⟩,_⟩
    exact k1 ⟨h3.1,h3.2.1⟩
theorem specValid_ev (l:List Tm) (hl:l.length≤1000000000000):∃ b,Ev (fun k=>Qb.f k l) b∧(b=true↔VT l):=by
 unfold Qb.f
 exact specValid_loop l hl l.length 0 (by omega) (by omega)
open Classical in
noncomputable def vt (l:List Tm):Bool:=decide (VT l)
theorem vt_iff (l:List Tm):vt l=true↔VT l:=by unfold vt;simp
theorem vt_of {b:Bool} {l:List Tm} (h:b=true↔VT l):b=vt l:=by
 rw [Bool.eq_iff_iff,h,vt_iff]
theorem implValid (l:List Tm) (hl:l.length≤1000000000000):Ev (fun k=>Qc.f k l) (vt l):=by
 obtain ⟨b,hb,h⟩:=implValid_ev l hl
 rw [← vt_of h];exact hb
theorem specValid (l:List Tm) (hl:l.length≤1000000000000):Ev (fun k=>Qb.f k l) (vt l):=by
 obtain ⟨b,hb,h⟩:=specValid_ev l hl
 rw [← vt_of h];exact hb
theorem Tm_ext {a b:Tm} (h0:a.f0=b.f0) (h1:a.f1=b.f1):a=b:=by
 cases a
 cases b
 simp at h0 h1
 rw [h0,h1]
instance:DecidableEq Tm:=fun a b=>decidable_of_iff (a.f0=b.f0∧a.f1=b.f1) ⟨fun h=>Tm_ext h.1 h.2,fun h=>by rw [h];exact ⟨rfl,rfl⟩⟩
theorem drop_at {l:List Tm} {i:Nat} (h:i < l.length):l.drop i=rt l i::l.drop (i+1):=by
 rw [List.drop_eq_getElem_cons h,rt_nat l i h]
abbrev addT (l:List Tm) (a b:Int):List Tm:=l ++ [(⟨a,b⟩:Tm)]
noncomputable def putT (l:List Tm) (a b:Int):List Tm:=if vt (addT l a b)=true then addT l a b else []
theorem implPut (l:List Tm) (a b:Int) (hl:l.length≤1000000000):Ev (fun k=>Qh.f k l a b) (putT l a b,vt (addT l a b)):=by
 unfold Qh.f Ql.f
 simp only [bsome,if_pos (show l.length < 8796093022208 by omega),List.length_cons,List.length_nil,if_pos (show l.length+(0+1) < 8796093022208 by omega)]
 refine Ev.bind (implValid (addT l a b) (by simp;omega)) ?_
 by_cases h:vt (addT l a b)=true
 ·simp only [if_pos h,Qq.f,bsome,putT]
  rw [h]
  exact ev_some _
 ·have h' : vt (addT l a b)=false:=by simpa using h
  simp only [if_neg h,putT]
  rw [h']
  exact ev_some _
theorem specPut (l:List Tm) (a b:Int) (hl:l.length≤1000000000):Ev (fun k=>Qo.f k l a b) (putT l a b,vt (addT l a b)):=by
 unfold Qo.f
 simp only [bsome,List.nil_append,List.length_cons,List.length_nil,if_pos (show 0+l.length < 8796093022208 by omega),if_pos (show l.length+(0+1) < 8796093022208 by omega)]
 refine Ev.bind (specValid (addT l a b) (by simp;omega)) ?_
 by_cases h:vt (addT l a b)=true
 ·simp only [if_pos h,putT]
  rw [h]
  exact ev_some _
 ·have h' : vt (addT l a b)=false:=by simpa using h
  simp only [if_neg h,putT]
  rw [h']
  exact ev_some _
abbrev Lm:=S24
def toT (x:Lm):Tm:=⟨x.f0,x.f1⟩
theorem rdL (l:List Lm) (j:Nat) (h:j < l.length):rd_T24 l (j:Int)=l[j]:=by
 unfold rd_T24
 rw [Int.toNat_natCast,List.getD_eq_getElem?_getD,List.getElem?_eq_getElem h]
 rfl
theorem szTerms (l:List Lm) (h:l.length≤maxLen):(l.length≤1048576∧Qn.f l 1048576=some (1048576 - (l.length:Int)))∨(1048576 < l.length∧Qn.f l 1048576=some (-1)):=by
 unfold maxLen at h
 have e:wrap64 (1048576 - (l.length:Int))=1048576 - (l.length:Int):=wrap_id (by omega) (by omega)
 unfold Qn.f
 rw [e]
 by_cases hc : 1048576 - (l.length:Int) < 0
 ·rw [if_pos hc];exact .inr ⟨by omega,rfl⟩
 ·rw [if_neg hc];exact .inl ⟨by omega,rfl⟩
theorem set_mid {α:Type} (a:List α) (x y : α) (b:List α) (i:Nat) (h:i=a.length):(a++x::b).set i y=a++y::b:=by
 subst h
 simp
theorem toTerms_loop (l:List Lm) (hl:l.length≤1048576):∀ (d i:Nat),l.length - i=d→i≤l.length→Ev (fun k=>Qf.l0 k l ((l.map toT).take i++List.replicate (l.length - i) z30) (i:Int)) (l.map toT):=by
 intro d
 induction d with
 | zero=>
  intro i hd hi
  refine ev_succ ?_
  simp only [Qf.l0,if_neg (show ¬ (i:Int) < (l.length:Int) by omega)]
  rw [show l.length - i=0 by omega,List.replicate_zero,List.append_nil,List.take_of_length_le (by simp;omega)]
  exact ev_some _
 | succ d ih=>
  intro i hd hi
  have hlt:(i:Int) < (l.length:Int):=by omega
  have e1:wrap64 ((i:Int)+1)=((i+1:Nat):Int):=by rw [wrap_id (by omega) (by omega)];omega
  obtain ⟨m,hm⟩:∃ m,l.length - i=m+1:=⟨l.length - i - 1,by omega⟩
  have hlen:((l.map toT).take i).length=i:=by simp;omega
  have hset:((l.map toT).take i++List.replicate (l.length - i) z30).set i (toT l[i])=(l.map toT).take (i+1)++List.replicate (l.length - (i+1)) z30:=by
   rw [hm,List.replicate_succ,set_mid _ _ _ _ _ hlen.symm,show l.length - (i+1)=m by omega,List.take_succ_eq_append_getElem (by simp;omega),List.append_assoc]
   simp
  refine ev_succ ?_
  simp only [Qf.l0,if_pos hlt,if_pos (show (0:Int)≤i by omega),Qi.f,bsome,if_pos (show (i:Int) < ((((l.map toT).take i++List.replicate (l.length - i) z30).length:Nat):Int) by simp;omega),e1,Int.toNat_natCast,rdL l i (by omega)]
  have:=ih (i+1) (by omega) (by omega)
  rw [← hset] at this
  exact this
theorem toTerms (l:List Lm) (hl:l.length≤1048576):Ev (fun k=>Qf.f k l) (l.map toT):=by
 unfold Qf.f
 simp only [if_pos (show 0≤(l.length:Int) by omega),Int.toNat_natCast,if_pos (show l.length≤17592186044416 by omega)]
 have:=toTerms_loop l hl l.length 0 (by omega) (by omega)
 simpa using this
theorem eqTerms_loop (a b:List Tm) (hl:a.length=b.length) (hs:a.length≤1048576):∀ (d i:Nat),a.length - i=d→i≤a.length→Ev (fun k=>Qd.l0 k a b (i:Int)) (decide (a.drop i=b.drop i)):=by
 intro d
 induction d with
 | zero=>
  intro i hd hi
  rw [show a.drop i = [] from List.drop_eq_nil_of_le (by omega),show b.drop i = [] from List.drop_eq_nil_of_le (by omega)]
  refine ev_succ ?_
  simp only [Qd.l0,if_neg (show ¬ (i:Int) < (a.length:Int) by omega),decide_true]
  exact ev_some _
 | succ d ih=>
  intro i hd hi
  have hlt:(i:Int) < (a.length:Int):=by omega
  have e1:wrap64 ((i:Int)+1)=((i+1:Nat):Int):=by rw [wrap_id (by omega) (by omega)];omega
  rw [drop_at (show i < a.length by omega),drop_at (show i < b.length by omega)]
  refine ev_succ ?_
  simp only [Qd.l0,if_pos hlt,if_pos (show (0:Int)≤i by omega),if_pos (show (i:Int) < (b.length:Int) by omega),Qs.f,e1]
  by_cases h0:(rt a i).f0=(rt b i).f0
  ·by_cases h1:(rt a i).f1=(rt b i).f1
   ·simp only [if_pos h0,if_pos h1,bsome,if_true]
    have:=ih (i+1) (by omega) (by omega)
    simpa [Tm_ext h0 h1] using this
   ·have hne:¬ rt a i=rt b i:=fun h=>h1 (by rw [h])
    simp only [if_pos h0,if_neg h1,bsome,Bool.false_eq_true,if_false]
    rw [decide_eq_false (by simp [hne])]
    exact ev_some _
  ·have hne:¬ rt a i=rt b i:=fun h=>h0 (by rw [h])
   simp only [if_neg h0,bsome,Bool.false_eq_true,if_false]
   rw [decide_eq_false (by simp [hne])]
   exact ev_some _
theorem eqTerms (a b:List Tm) (hs:a.length≤1048576):Ev (fun k=>Qd.f k a b) (decide (a=b)):=by
 unfold Qd.f
 by_cases h:(a.length:Int)=(b.length:Int)
 ·simp only [if_pos h]
  have:=eqTerms_loop a b (by omega) hs a.length 0 (by omega) (by omega)
  simpa using this
 ·simp only [if_neg h]
  rw [decide_eq_false (fun e=>h (by rw [e]))]
  exact ev_some _
theorem eqTerms_self (a:List Tm) (hs:a.length≤1048576):Ev (fun k=>Qd.f k a a) true:=by
 have:=eqTerms a a hs
 rwa [decide_eq_true rfl] at this
def marks:Nat→Int→List Tm
 | 0,_=>[]
 | n+1,a=>⟨a,a+1⟩::marks n (a+1+1)
theorem marks_length:∀ (n:Nat) (a:Int),(marks n a).length=n
 | 0,_=>rfl
 | n+1,a=>by simp [marks,marks_length n]
theorem marks_snoc:∀ (n:Nat) (a:Int),marks (n+1) a=marks n a ++ [⟨a+2 * n,a+2 * n+1⟩]
 | 0,a=>by simp [marks]
 | n+1,a=>by
  rw [marks,marks_snoc n,marks]
  simp
  omega
theorem marks_at:∀ (n:Nat) (a:Int) (j:Nat) (h:j < (marks n a).length),(marks n a)[j]=⟨a+2 * j,a+2 * j+1⟩
 | 0,a,j,h=>by simp [marks] at h
 | n+1,a,0,h=>by simp [marks]
 | n+1,a,j+1,h=>by
  have:=marks_at n (a+1+1) j (by simpa [marks] using h)
  simp only [marks,List.getElem_cons_succ]
  rw [this]
  congr 1 <;> omega
theorem mark_loop (l:List Tm) (hl:l.length≤1048576):∀ (d i:Nat),l.length - i=d→i≤l.length→Ev (fun k=>Qe.l0 k (marks i 1++l.drop i) (1+2 * (i:Int)) (i:Int)) (1+2 * (l.length:Int),marks l.length 1):=by
 intro d
 induction d with
 | zero=>
  intro i hd hi
  obtain rfl:i=l.length:=by omega
  refine ev_succ ?_
  simp only [Qe.l0,List.drop_length,List.append_nil,marks_length,if_neg (show ¬ (l.length:Int) < (l.length:Int) by omega)]
  exact ev_some _
 | succ d ih=>
  intro i hd hi
  have e1:wrap64 ((i:Int)+1)=((i+1:Nat):Int):=by rw [wrap_id (by omega) (by omega)];omega
  have e2:wrap64 (1+2 * (i:Int)+1)=1+2 * (i:Int)+1:=wrap_id (by omega) (by omega)
  have e3:wrap64 (1+2 * (i:Int)+1+1)=1+2 * ((i+1:Nat):Int):=by rw [wrap_id (by omega) (by omega)];omega
  have hlen:(marks i 1++l.drop i).length=l.length:=by simp [marks_length];omega
  refine ev_succ ?_
  have hd1:l.drop i=rt l i::l.drop (i+1):=drop_at (by omega)
  have hr:∀ (x:Tm) (r:List Tm),Qa (marks i 1++x::r) (i:Int)=x:=by
   intro x r
   unfold Qa
   rw [Int.toNat_natCast,List.getD_eq_getElem?_getD,List.getElem?_append_right (by rw [marks_length];omega),marks_length]
   simp
  simp only [Qe.l0,hlen,if_pos (show (i:Int) < (l.length:Int) by omega),if_pos (show (0:Int)≤i by omega),bsome,e1,e2,e3,Int.toNat_natCast]
  rw [hd1,hr]
  rw [set_mid _ _ _ _ _ (marks_length i 1).symm,hr,set_mid _ _ _ _ _ (marks_length i 1).symm]
  have:=ih (i+1) (by omega) (by omega)
  rw [marks_snoc,List.append_assoc] at this
  exact this
theorem held_loop (n:Nat) (hn:n≤1048576):∀ (d i:Nat),n - i=d→i≤n→Ev (fun k=>Qg.l0 k (marks n 1) (1+2 * (i:Int)) (i:Int)) (1+2 * (n:Int)):=by
 intro d
 induction d with
 | zero=>
  intro i hd hi
  obtain rfl:i=n:=by omega
  refine ev_succ ?_
  simp only [Qg.l0,marks_length,if_neg (show ¬ (i:Int) < (i:Int) by omega)]
  exact ev_some _
 | succ d ih=>
  intro i hd hi
  have e1:wrap64 ((i:Int)+1)=((i+1:Nat):Int):=by rw [wrap_id (by omega) (by omega)];omega
  have e2:wrap64 (1+2 * (i:Int)+1)=1+2 * (i:Int)+1:=wrap_id (by omega) (by omega)
  have e3:wrap64 (1+2 * (i:Int)+1+1)=1+2 * ((i+1:Nat):Int):=by rw [wrap_id (by omega) (by omega)];omega
  have hr:Qa (marks n 1) (i:Int)=⟨1+2 * (i:Int),1+2 * (i:Int)+1⟩:=by
   show rt (marks n 1) (i:Int) = _
   rw [rt_nat _ _ (by rw [marks_length];omega),marks_at]
  refine ev_succ ?_
  simp only [Qg.l0,marks_length,if_pos (show (i:Int) < (n:Int) by omega),if_pos (show (0:Int)≤i by omega),hr,e1,e2,e3,if_true]
  exact ih (i+1) (by omega) (by omega)
theorem markTerms (l:List Tm) (hl:l.length≤1048576):∃ m l',Ev (fun k=>Qe.f k l 1) (m,l')∧0≤m∧Ev (fun k=>Qg.f k l' 1) m:=by
 refine ⟨1+2 * (l.length:Int),marks l.length 1,?_,by omega,?_⟩
 ·have:=mark_loop l hl l.length 0 (by omega) (by omega)
  simpa [marks,Qe.f] using this
 ·have:=held_loop l.length hl l.length 0 (by omega) (by omega)
  simpa [Qg.f] using this
theorem putT_short (l:List Tm) (a b:Int):(putT l a b).length≤8:=by
 unfold putT
 by_cases h:vt (addT l a b)=true
 ·rw [if_pos h];exact ((vt_iff _).1 h).1
 ·rw [if_neg h];simp
end Go.Proofs.Ytelicmnacflblaa.Q
namespace Go.Proofs.Ytelicmnacflblaa.Pure
open Go.RowKit Go.Proofs.Ytelicmnacflblaa.T Go.Proofs.YtelicmnacflblaaW.PrintWords Go.Proofs.YtelicmnacflblaaW.PrintLast Go.Proofs.Ytelicmnacflblaa.Q
set_option linter.unusedVariables false
set_option linter.unusedSimpArgs false
theorem FnExactTermsPut (l0:List Lm) (a b:Int) (hm:l0.length≤maxLen) (_hw:∀ v∈l0,WF24 v) (_ha:(Lit.int .i64 a).wf=true) (_hb:(Lit.int .i64 b).wf=true):∃ k,laws_FnExactTermsPut.f k l0 a b=some true:=by
 refine Ev.rounds ?_
 unfold laws_FnExactTermsPut.f
 rcases szTerms l0 hm with ⟨hl,hs⟩|⟨hl,hs⟩
 ·simp only [hs,bsome,if_neg (show ¬ (1048576:Int) - (l0.length:Int) < 0 by omega)]
  have ht:=toTerms l0 hl
  have hlen:(l0.map toT).length≤1048576:=by simpa using hl
  have hpl:=putT_short (l0.map toT) a b
  have hto:Qi.f a b=some (a,b):=rfl
  refine Ev.bind ht ?_
  simp only [hto,bsome]
  refine Ev.bind (specPut _ a b (by omega)) ?_
  refine Ev.bind ht ?_
  refine Ev.bind (implPut _ a b (by omega)) ?_
  refine Ev.bind (eqTerms_self (putT (l0.map toT) a b) (by omega)) ?_
  simp only [if_true,bne_self_eq_false]
  refine ev_succ ?_
  simp only [laws_FnExactTermsPut.j0,Bool.false_eq_true,if_false]
  refine Ev.bind ht ?_
  refine Ev.bind (eqTerms_self _ hlen) ?_
  simp only [if_true]
  obtain ⟨ma,la,hma,hma0,_⟩:=markTerms (l0.map toT) hlen
  refine Ev.bind hma ?_
  simp only [if_neg (show ¬ ma < 0 by omega)]
  refine Ev.bind (eqTerms_self (putT (l0.map toT) a b) (by omega)) ?_
  simp only [if_true,bne_self_eq_false]
  refine ev_succ ?_
  simp only [laws_FnExactTermsPut.j1,Bool.false_eq_true,if_false]
  obtain ⟨mb,lb,hmb,hmb0,hheld⟩:=markTerms (putT (l0.map toT) a b) (by omega)
  refine Ev.bind hmb ?_
  refine Ev.bind hheld ?_
  simp only [if_neg (show ¬ mb < 0 by omega),if_true]
  refine Ev.bind ht ?_
  simp only [hto,bsome]
  refine Ev.bind (implPut _ a b (by omega)) ?_
  refine Ev.bind (eqTerms_self (putT (l0.map toT) a b) (by omega)) ?_
  simp only [if_true,bne_self_eq_false]
  refine ev_succ ?_
  simp only [laws_FnExactTermsPut.j2,Bool.false_eq_true,if_false]
  refine Ev.bind hheld ?_
  simp only [if_neg (show ¬ mb < 0 by omega),if_true]
  exact ev_some _
 ·simp only [hs,bsome,if_pos (show (-1:Int) < 0 by omega)]
  exact ev_some _
end Go.Proofs.Ytelicmnacflblaa.Pure
namespace Go.Proofs.Ytelicmnacflblaa.fnExactTermsPut
open Go.ChangeShapes Go.WideShapes Go.ChangeAt Go.RowKit
open Go.ChangeMaps (open_string shut_string)
open Go.Proofs.YtelicmnacflblaaW.PrintWords
set_option linter.unusedVariables false
theorem own:ownKnob Try.prog.godebug=none:=by kernel_rfl
theorem laidOut:laidOutB Try.prog=true:=by kernel_rfl
theorem lifted (os:Os) (started:os.Started) (H:Type) (enc:TypeId×Value→H) :
  ReturnsInHanded {} Try.checked os 3 .any (Rows.fnExactTermsPutSpec.pre6 enc Try.prog Try.f3 Rows.fnExactTermsPutRow.domain false) (Rows.fnExactTermsPutSpec.post enc Try.prog Try.f3 false true false false):=by
 refine returnsInHanded_of_change_sized (C:=Try.checked) own started (by kernel_rfl) Try.func3
  (ChangeSpec.witness6 (enc:=enc) (C:=Try.checked) false ⟨#[],#[.slice none 0 0,.agg #[.int .i64 0,.int .i64 0]],[]⟩ 8 (by kernel_rfl) (by kernel_rfl) (by kernel_rfl) (by kernel_rfl)) ?_
 intro W base args ds gs before hval0 hW hcnd hsz0 _
 have hval:∀ (j:Nat) t v,Try.f3.params[j]? = some t→args[j]? = some v→Value.okWide Try.prog W .any base t v:=hval0
 have hW':=hW
 obtain ⟨p,q,hA0,hV,rfl,hfz,hnd⟩:=hW
 have hA:DataW.TrodAll enc Try.prog W 0 (fun _=>true) true Try.f3.params.toList args.toList ds p:=hA0
 rw [Try.params3] at hA hval
 obtain ⟨v0,vs0,d0,ds0,p0,q0,hargs,rfl,rfl,h0,r0⟩:=trodAll_cons hA
 obtain ⟨v1,vs1,d1,ds1,p1,q1,rfl,rfl,rfl,h1,r1⟩:=trodAll_cons r0
 obtain ⟨rfl,rfl,rfl⟩:=trodAll_nil r1
 obtain rfl:args = #[v0,v1]:=by cases args;simp_all
 obtain ⟨rfl,rfl⟩:=trodVars_none hV
 obtain ⟨a0,len0,cap0,rfl⟩:=okWide_slice Try.underlying22 (hval 0 22 v0 rfl rfl)
 have k0:=h0
 have lt0:∀ x∈p0,x.block < W.heap.size:=by obtain ⟨m,hm⟩:=k0;exact DataW.trod_lt m _ _ _ hm
 obtain ⟨fu0,hf0⟩:=h0
 obtain ⟨l0,⟨A0,c0,hE0,hc0,hC0⟩,hm0,hw0⟩:=(Q.Opens.slice Try.underlying22 T.opens24 (by kernel_rfl)) _ enc W _ _ _ _ _ _ hf0
 replace hE0:([.slice a0 len0 cap0]:List Value) = [.slice A0 l0.length c0]:=hE0
 simp only [List.cons.injEq,Value.slice.injEq,and_true] at hE0
 obtain ⟨rfl,rfl,rfl⟩:=hE0
 obtain ⟨cs1,rfl,hz1⟩:=okWide_struct Try.underlying24 (hval 1 24 v1 rfl rfl)
 have k1:=h1
 have lt1:∀ x∈p1,x.block < W.heap.size:=by obtain ⟨m,hm⟩:=k1;exact DataW.trod_lt m _ _ _ hm
 obtain ⟨fu1,hf1⟩:=h1
 obtain ⟨x1,hK1,hw1⟩:=T.opens24 _ enc W _ _ _ _ _ _ hf1
 have hO1:=T.k24_open hK1
 obtain rfl:cs1 = #[.int .i64 x1.f0,.int .i64 x1.f1]:=Array.ext' (by simpa [Value.cells] using hO1)
 have hw1':=hw1
 unfold T.WF24 at hw1'
 obtain ⟨hw1_0,hw1_1⟩:=hw1'
 clear hA0 hval0 hsz0
 obtain ⟨k,h⟩:=Pure.FnExactTermsPut l0 x1.f0 x1.f1 hm0 hw0 hw1_0 hw1_1
 refine (T.laws_FnExactTermsPut.calls k _ _ l0 x1.f0 x1.f1 true W hC0 hc0 h).mono ?_
 rintro e W' ⟨rfl,bel⟩
 exact ⟨_,rfl,_,_,_,[],_,[],hW',trodAll_mk1 (shut_bool Try.underlying4 _),(trodAll_cons_mk (Below.trod laidOut (by kernel_rfl) (of_decide_eq_true (by kernel_rfl)) k0 bel lt0) (trodAll_cons_mk (Below.trod laidOut (by kernel_rfl) (of_decide_eq_true (by kernel_rfl)) k1 bel lt1) trodAll_mk0)),rfl,bel.frame _,fun h=>by cases h⟩
theorem closed:joinedFacts Try.prog 3 Try.f3 Rows.fnExactTermsPutSpec Rows.fnExactTermsPutRow=true:=
 Head.closed_of _ _ _ _ _ (by kernel_rfl) (by kernel_rfl) (by kernel_rfl) (by kernel_rfl) (by kernel_rfl) (by kernel_rfl) (by kernel_rfl) (by kernel_rfl) (by kernel_rfl) (by kernel_rfl) (by kernel_rfl) (by kernel_rfl) (by kernel_rfl) (by kernel_rfl) (by kernel_rfl) (by kernel_rfl) (by kernel_rfl) (by kernel_rfl) (by kernel_rfl) (by kernel_rfl) (by kernel_rfl) (by kernel_rfl) (by kernel_rfl) (by kernel_rfl) (by kernel_rfl) Head.may_enter (by rw [Head.lifts_final];kernel_rfl) (by rw [Head.make_is];kernel_rfl) (by kernel_rfl) (by kernel_rfl) (by kernel_rfl) (by kernel_rfl)
theorem over:Rows.fnExactTermsPutRow.holds Try.pinned (OpenSpec.ofChange Rows.fnExactTermsPutSpec):=
 OpenClaim.holds_of_wide 3 Try.f3 rfl rfl rfl rfl rfl rfl rfl ⟨rfl,rfl,rfl,rfl,rfl⟩ rfl rfl rfl rfl rfl (by kernel_rfl) Try.func3 closed
  (of_decide_eq_true (by kernel_rfl)) (by unfold Func.isWrapper;first|(rw [if_pos (by decide +kernel)];kernel_rfl)|(rw [if_neg (by decide +kernel)];exact ⟨rfl,rfl⟩))
  (fun os started H enc _=>lifted os started H enc)
theorem proved:Rows.FnExactTermsPutSaid:=over
end Go.Proofs.Ytelicmnacflblaa.fnExactTermsPut
namespace Go.Proofs.Ytelicmnacflblaa
theorem fnExactTermsPut_holds:Rows.FnExactTermsPutSaid:=fnExactTermsPut.proved
end Go.Proofs.Ytelicmnacflblaa
