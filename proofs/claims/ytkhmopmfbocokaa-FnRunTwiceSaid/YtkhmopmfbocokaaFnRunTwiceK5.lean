/- FnRunTwice, part 6 of 6: merged by wip/tools/pack2.py out of the texts that the row reaches; the pure statement is the session's own. -/
import Derived.RowKit
import Derived.Test.YtkhmopmfbocokaaRows
import Derived.WalkKit
import Derived.ProofKit
import Derived.OpenShut
import Derived.ShutString
import Derived.ChangeOld
import Derived.Below
import Derived.SizedLaws
import Derived.Test.YtkhmopmfbocokaaFnRunTwiceK4
open List (setIfInBounds_toArray set_cons_zero set_cons_succ map_toArray map_cons map_nil length_drop length_take)
namespace Go.Proofs.Ytkhmopmfbocokaa.T
open Go.RowKit Go.Proofs.YtkhmopmfbocokaaW.PrintWords Go.Proofs.YtkhmopmfbocokaaW.PrintLast Go.Proofs.YtkhmopmfbocokaaW.PrintMore
attribute [local go_sem] max2_int max_two
set_option linter.unusedVariables false
set_option linter.unusedSimpArgs false
def spec_ProducersPut.f (k:Nat) (l0:List (S39)) (a1_0:Bool) (a1_1:Bool) (a1_2:Int) (a1_3:Int) (a1_4:Int) (l1_5:List (S79)):Option ((List (S39)) × Int):=(spec_ProducersCheck.f k l0 a1_0 a1_1 a1_2 a1_3 a1_4 l1_5).bind fun t514=>(if t514=5 then (some ((([]:List (S39))),5)) else ((some (([]:List (S39)):List (S39))).bind fun y518=>(if y518.length+l0.length < 5864062014805 then ((some (y518 ++ l0:List (S39))).bind fun y521=>(if t514=0 then ((spec_l21Put.f k l0 a1_2 a1_3 (wrap64 (a1_4+(l1_5.length:Int)))).bind fun t524=>((spec_ProducersValid.f k t524).bind fun t527=>(if t527=true then (some (t524,t514)) else (some ((([]:List (S39))),5))))) else ((spec_ProducersValid.f k y521).bind fun t531=>(if t531=true then (some (y521,t514)) else (some ((([]:List (S39))),5)))))) else (none))))
set_option maxHeartbeats 8000000 in
set_option maxRecDepth 100000 in
theorem spec_ProducersPut.calls (k:Nat) (A0:Option Addr) (c0:Nat) (l0:List (S39)) (a1_0:Bool) (a1_1:Bool) (a1_2:Int) (a1_3:Int) (a1_4:Int) (A1_5:Option Addr) (c1_5:Nat) (l1_5:List (S79)) (r1:List (S39)) (r2:Int) (w:World) (hr0:Kd.C k39 w A0 l0.length l0) (hc0:l0.length ≤ c0) (hr1_5:Kd.C k79 w A1_5 l1_5.length l1_5) (hc1_5:l1_5.length ≤ c1_5) (h:spec_ProducersPut.f k l0 a1_0 a1_1 a1_2 a1_3 a1_4 l1_5=some (r1,r2)) :
  Calls Try.prog 30 #[.slice A0 l0.length c0,.agg #[.bool a1_0,.bool a1_1,.int .i64 a1_2,.int .i64 a1_3,.int .i64 a1_4,.slice A1_5 l1_5.length c1_5]] w fun e w'=>∃ v0_:Value,e = .returned (.tuple #[v0_,.int .i64 r2])∧Kd.R k39 39 w' w.heap.size (fun _=>True) v0_ r1∧Below w.heap.size w w':=by
 have hu34:=Try.underlying34
 have hu39:=Try.underlying39
 have HR0:=Aside0.mk hr0
 have HC0:=Aside0.mk hc0
 clear hr0 hc0
 have HR1_5:=Aside0.mk hr1_5
 have HC1_5:=Aside0.mk hc1_5
 clear hr1_5 hc1_5
 have HB:=Aside0.mk (Below.refl w.heap.size w)
 have H:((spec_ProducersCheck.f k l0 a1_0 a1_1 a1_2 a1_3 a1_4 l1_5).bind fun t514=>(if t514=5 then (some ((([]:List (S39))),5)) else ((some (([]:List (S39)):List (S39))).bind fun y518=>(if y518.length+l0.length < 5864062014805 then ((some (y518 ++ l0:List (S39))).bind fun y521=>(if t514=0 then ((spec_l21Put.f k l0 a1_2 a1_3 (wrap64 (a1_4+(l1_5.length:Int)))).bind fun t524=>((spec_ProducersValid.f k t524).bind fun t527=>(if t527=true then (some (t524,t514)) else (some ((([]:List (S39))),5))))) else ((spec_ProducersValid.f k y521).bind fun t531=>(if t531=true then (some (y521,t514)) else (some ((([]:List (S39))),5)))))) else (none)))))=some (r1,r2):=h
 clear h
 replace H:=Option.bind_eq_some_iff.mp H
 obtain ⟨t514,A30,H⟩:=H
 replace H:(if t514=5 then (some ((([]:List (S39))),5)) else ((some (([]:List (S39)):List (S39))).bind fun y518=>(if y518.length+l0.length < 5864062014805 then ((some (y518 ++ l0:List (S39))).bind fun y521=>(if t514=0 then ((spec_l21Put.f k l0 a1_2 a1_3 (wrap64 (a1_4+(l1_5.length:Int)))).bind fun t524=>((spec_ProducersValid.f k t524).bind fun t527=>(if t527=true then (some (t524,t514)) else (some ((([]:List (S39))),5))))) else ((spec_ProducersValid.f k y521).bind fun t531=>(if t531=true then (some (y521,t514)) else (some ((([]:List (S39))),5)))))) else (none))))=some (r1,r2):=H
 have A3:=Aside0.mk A30
 clear A30
 by_cases c4:t514=5
 ·rw [if_pos c4] at H
  have c4b0:(t514 == 5)=true:=beq_iff_eq.mpr c4
  have c4b1:(t514 != 5)=false:=bne_eq_false_iff_eq.mpr c4
  clear c4
  obtain ⟨y515,hy515⟩:∃ y_:List (S39),y_=(([]:List (S39))):=⟨_,rfl⟩
  replace H:(some (y515,5))=some (r1,r2):=by first|(rw [hy515];with_reducible exact H)|(have H2_:=(Option.bind_some _ _).symm.trans H;rw [hy515];with_reducible exact H2_)|(have H2_:=(Option.bind_some _ _).symm.trans H;with_reducible exact H2_)|with_reducible exact H|(rw [hy515];exact H)|exact H
  have Ny515:=Aside0.mk hy515
  clear hy515
  simp only [Option.some.injEq,Prod.mk.injEq] at H
  obtain ⟨rfl,rfl⟩:=H
  go_enter Try.func30,Try.ntmps30
  go_wp2_with (first|((with_reducible refine gate_dst (N:=3) rfl ?_);refine box_event ?hg (N:=3) ?hd (cs:=#[.bool a1_0,.bool a1_1,.int .i64 a1_2,.int .i64 a1_3,.int .i64 a1_4,.slice A1_5 l1_5.length c1_5]) (t:=34) ?hr ?_;(case hd=>rfl);(case hg=>rfl);(case hr=>first|(go_simp;done)|(go_simp;rfl));intro gb513 hg w5 hbox hb;have n0_:=Aside0.mk (below_step (by repeat (first|(with_reducible first|exact HB.out|apply below_alloc|apply pw_below_drewN|apply below_drew1)|exact HB.out)) hb);have n1_:=Aside0.mk (hbox);have n2_:=Aside0.mk ((by rw [hg];exact (below_size (by repeat (first|(with_reducible first|exact HB.out|apply below_alloc|apply pw_below_drewN|apply below_drew1)|exact HB.out))):w.heap.size ≤ gb513));have n3_:=Aside0.mk ((by rw [hg];exact (below_size (by repeat (first|(with_reducible first|exact HB.out|apply below_alloc|apply pw_below_drewN|apply below_drew1)|exact HB.out))):w.heap.size ≤ gb513));clear HB;have HB:=n0_;have BK513:=n1_;have GW513:=n2_;have GE513:=n3_;clear n0_ n1_ n2_ n3_;clear hb hbox hg;have hcz6_0:w5.cell? ⟨gb513,0,none⟩=some (.bool a1_0):=(blk_cell BK513.out 0).trans rfl;have hcz6_1:w5.cell? ⟨gb513,1,none⟩=some (.bool a1_1):=(blk_cell BK513.out 1).trans rfl;have hcz6_2:w5.cell? ⟨gb513,2,none⟩=some (.int .i64 a1_2):=(blk_cell BK513.out 2).trans rfl;have hcz6_3:w5.cell? ⟨gb513,3,none⟩=some (.int .i64 a1_3):=(blk_cell BK513.out 3).trans rfl;have hcz6_4:w5.cell? ⟨gb513,4,none⟩=some (.int .i64 a1_4):=(blk_cell BK513.out 4).trans rfl;have hcz6_5:w5.cell? ⟨gb513,5,none⟩=some (.slice A1_5 l1_5.length c1_5):=(blk_cell BK513.out 5).trans rfl;have hfz6_0:=blk_frozen BK513.out 0;have hfz6_1:=blk_frozen BK513.out 1;have hfz6_2:=blk_frozen BK513.out 2;have hfz6_3:=blk_frozen BK513.out 3;have hfz6_4:=blk_frozen BK513.out 4;have hfz6_5:=blk_frozen BK513.out 5)|((with_reducible refine gate_callee (f:=26) rfl ?_);refine goesL_ (some 10) rfl rfl Try.func26 (by kernel_rfl) rfl #[.slice A0 l0.length c0,.agg #[.bool a1_0,.bool a1_1,.int .i64 a1_2,.int .i64 a1_3,.int .i64 a1_4,.slice A1_5 l1_5.length c1_5]] rfl (by (try simp only [map_toArray,map_cons,map_nil]);first|done|rfl|(simp only [length_drop,length_take];rfl)) ?_;(with_reducible refine (spec_ProducersCheck.calls k _ _ l0 a1_0 a1_1 a1_2 a1_3 a1_4 _ _ l1_5 t514 _ ?side1 ?side2 ?side3 ?side4 A3.out).mono ?_);(case side1=>repeat (first|exact (Kd.C_below HR0.out HB.out)|(with_reducible refine Kd.C_alloc ?_ _)|(with_reducible refine Kd.C_drewN ?_ _)|(with_reducible refine Kd.C_drew ?_)));(case side2=>exact HC0.out);(case side3=>repeat (first|exact (Kd.C_below HR1_5.out HB.out)|(with_reducible refine Kd.C_alloc ?_ _)|(with_reducible refine Kd.C_drewN ?_ _)|(with_reducible refine Kd.C_drew ?_)));(case side4=>exact HC1_5.out);rintro e w7 ⟨rfl,hb⟩;refine ⟨_,rfl,?_⟩;have n0_:=Aside0.mk (blk_below (g:=gb513) (o:=.cells #[.bool a1_0,.bool a1_1,.int .i64 a1_2,.int .i64 a1_3,.int .i64 a1_4,.slice A1_5 l1_5.length c1_5] 34 (0,0)) (by (with_reducible repeat (first|refine blk_drewN ?_ _|refine blk_drew ?_|refine blk_alloc ?_ _));exact BK513.out) hb);have n1_:=Aside0.mk (below_step (by repeat (first|(with_reducible first|exact HB.out|apply below_alloc|apply pw_below_drewN|apply below_drew1|refine below_set ?_ GE513.out)|exact HB.out)) hb);clear BK513 HB;have BK513:=n0_;have HB:=n1_;clear n0_ n1_;(try clear hb);(try clear hb2);(try clear hk);(try clear hi))|((with_reducible refine gate_dst (N:=13) rfl ?_);refine Kd.R_lit k39 _ 39 ?hg (N:=13) ?hd (xs:=([]:List (S39))) (inner:=[]) (ok:=fun _=>True) (okp:=fun _=>True) ?hr ?hp (fun _ hk=>hk) trivial (Below.refl _ _) (Nat.le_refl _) (by simp) ?_;(case hd=>rfl);(case hg=>rfl);(case hr=>first|(go_simp;done)|(go_simp;rfl));(case hp=>exact (Reps.none _ _));intro v516 w8 ho9 hb hg_ hnew_;clear hg_ hnew_;(first|rw [← Ny515.out] at ho9|(simp only [Int.reduceToNat] at ho9;rw [← Ny515.out] at ho9));have n0_:=Aside0.mk (Kd.R_lower ho9 (below_size (by repeat (first|(with_reducible first|exact HB.out|apply below_alloc|apply pw_below_drewN|apply below_drew1|refine below_set ?_ GE513.out)|exact HB.out))));have n1_:=Aside0.mk (blk_below (g:=gb513) (o:=.cells #[.bool a1_0,.bool a1_1,.int .i64 a1_2,.int .i64 a1_3,.int .i64 a1_4,.slice A1_5 l1_5.length c1_5] 34 (0,0)) (by (with_reducible repeat (first|refine blk_drewN ?_ _|refine blk_drew ?_|refine blk_alloc ?_ _));exact BK513.out) hb);have n2_:=Aside0.mk (below_step (by repeat (first|(with_reducible first|exact HB.out|apply below_alloc|apply pw_below_drewN|apply below_drew1|refine below_set ?_ GE513.out)|exact HB.out)) hb);clear BK513 HB;have HO517:=n0_;have BK513:=n1_;have HB:=n2_;clear n0_ n1_ n2_;clear hb ho9))
  go_ret2
  exact ⟨_,by first|rfl|(simp [errW_none,errW_some] <;> rfl)|(simp [*,errW_none,errW_some] <;> rfl),by (with_reducible repeat (first|apply Kd.R_alloc|apply Kd.R_drewN|apply Kd.R_drew));exact HO517.out,by repeat (first|(with_reducible first|exact HB.out|apply below_alloc|apply pw_below_drewN|apply below_drew1|refine below_set ?_ GE513.out)|exact HB.out)⟩
 ·rw [if_neg c4] at H
  have c4b0:(t514 == 5)=false:=beq_eq_false_iff_ne.mpr c4
  have c4b1:(t514 != 5)=true:=bne_iff_ne.mpr c4
  obtain ⟨y518,hy518⟩:∃ y_:List (S39),y_=(([]:List (S39))):=⟨_,rfl⟩
  replace H:(if y518.length+l0.length < 5864062014805 then ((some (y518 ++ l0:List (S39))).bind fun y521=>(if t514=0 then ((spec_l21Put.f k l0 a1_2 a1_3 (wrap64 (a1_4+(l1_5.length:Int)))).bind fun t524=>((spec_ProducersValid.f k t524).bind fun t527=>(if t527=true then (some (t524,t514)) else (some ((([]:List (S39))),5))))) else ((spec_ProducersValid.f k y521).bind fun t531=>(if t531=true then (some (y521,t514)) else (some ((([]:List (S39))),5)))))) else (none))=some (r1,r2):=by first|(rw [hy518];with_reducible exact H)|(have H2_:=(Option.bind_some _ _).symm.trans H;rw [hy518];with_reducible exact H2_)|(have H2_:=(Option.bind_some _ _).symm.trans H;with_reducible exact H2_)|with_reducible exact H|(rw [hy518];exact H)|exact H
  have Ny518:=Aside0.mk hy518
  clear hy518
  by_cases c10:y518.length+l0.length < 5864062014805
  ·rw [if_pos c10] at H
   have LMc10:=Aside0.mk c10
   clear c10
   obtain ⟨y521,hy521⟩:∃ y_:List (S39),y_=(y518 ++ l0):=⟨_,rfl⟩
   replace H:(if t514=0 then ((spec_l21Put.f k l0 a1_2 a1_3 (wrap64 (a1_4+(l1_5.length:Int)))).bind fun t524=>((spec_ProducersValid.f k t524).bind fun t527=>(if t527=true then (some (t524,t514)) else (some ((([]:List (S39))),5))))) else ((spec_ProducersValid.f k y521).bind fun t531=>(if t531=true then (some (y521,t514)) else (some ((([]:List (S39))),5)))))=some (r1,r2):=by first|(rw [hy521];with_reducible exact H)|(have H2_:=(Option.bind_some _ _).symm.trans H;rw [hy521];with_reducible exact H2_)|(have H2_:=(Option.bind_some _ _).symm.trans H;with_reducible exact H2_)|with_reducible exact H|(rw [hy521];exact H)|exact H
   have Ny521:=Aside0.mk hy521
   clear hy521
   by_cases c11:t514=0
   ·rw [if_pos c11] at H
    have c11b0:(t514 == 0)=true:=beq_iff_eq.mpr c11
    have c11b1:(t514 != 0)=false:=bne_eq_false_iff_eq.mpr c11
    clear c11
    replace H:=Option.bind_eq_some_iff.mp H
    obtain ⟨t524,A120,H⟩:=H
    replace H:((spec_ProducersValid.f k t524).bind fun t527=>(if t527=true then (some (t524,t514)) else (some ((([]:List (S39))),5))))=some (r1,r2):=H
    have A12:=Aside0.mk A120
    clear A120
    replace H:=Option.bind_eq_some_iff.mp H
    obtain ⟨t527,A130,H⟩:=H
    replace H:(if t527=true then (some (t524,t514)) else (some ((([]:List (S39))),5)))=some (r1,r2):=H
    have A13:=Aside0.mk A130
    clear A130
    by_cases c14:t527=true
    ·subst c14
     have H1:(some (t524,t514))=some (r1,r2):=by rw [if_pos rfl] at H;exact H
     clear H
     have H:=H1
     clear H1
     simp only [Option.some.injEq,Prod.mk.injEq] at H
     obtain ⟨rfl,rfl⟩:=H
     go_enter Try.func30,Try.ntmps30
     go_wp2_with (first|((with_reducible refine gate_dst (N:=3) rfl ?_);refine box_event ?hg (N:=3) ?hd (cs:=#[.bool a1_0,.bool a1_1,.int .i64 a1_2,.int .i64 a1_3,.int .i64 a1_4,.slice A1_5 l1_5.length c1_5]) (t:=34) ?hr ?_;(case hd=>rfl);(case hg=>rfl);(case hr=>first|(go_simp;done)|(go_simp;rfl));intro gb513 hg w15 hbox hb;have n0_:=Aside0.mk (below_step (by repeat (first|(with_reducible first|exact HB.out|apply below_alloc|apply pw_below_drewN|apply below_drew1)|exact HB.out)) hb);have n1_:=Aside0.mk (hbox);have n2_:=Aside0.mk ((by rw [hg];exact (below_size (by repeat (first|(with_reducible first|exact HB.out|apply below_alloc|apply pw_below_drewN|apply below_drew1)|exact HB.out))):w.heap.size ≤ gb513));have n3_:=Aside0.mk ((by rw [hg];exact (below_size (by repeat (first|(with_reducible first|exact HB.out|apply below_alloc|apply pw_below_drewN|apply below_drew1)|exact HB.out))):w.heap.size ≤ gb513));clear HB;have HB:=n0_;have BK513:=n1_;have GW513:=n2_;have GE513:=n3_;clear n0_ n1_ n2_ n3_;clear hb hbox hg;have hcz16_0:w15.cell? ⟨gb513,0,none⟩=some (.bool a1_0):=(blk_cell BK513.out 0).trans rfl;have hcz16_1:w15.cell? ⟨gb513,1,none⟩=some (.bool a1_1):=(blk_cell BK513.out 1).trans rfl;have hcz16_2:w15.cell? ⟨gb513,2,none⟩=some (.int .i64 a1_2):=(blk_cell BK513.out 2).trans rfl;have hcz16_3:w15.cell? ⟨gb513,3,none⟩=some (.int .i64 a1_3):=(blk_cell BK513.out 3).trans rfl;have hcz16_4:w15.cell? ⟨gb513,4,none⟩=some (.int .i64 a1_4):=(blk_cell BK513.out 4).trans rfl;have hcz16_5:w15.cell? ⟨gb513,5,none⟩=some (.slice A1_5 l1_5.length c1_5):=(blk_cell BK513.out 5).trans rfl;have hfz16_0:=blk_frozen BK513.out 0;have hfz16_1:=blk_frozen BK513.out 1;have hfz16_2:=blk_frozen BK513.out 2;have hfz16_3:=blk_frozen BK513.out 3;have hfz16_4:=blk_frozen BK513.out 4;have hfz16_5:=blk_frozen BK513.out 5)|((with_reducible refine gate_callee (f:=26) rfl ?_);refine goesL_ (some 10) rfl rfl Try.func26 (by kernel_rfl) rfl #[.slice A0 l0.length c0,.agg #[.bool a1_0,.bool a1_1,.int .i64 a1_2,.int .i64 a1_3,.int .i64 a1_4,.slice A1_5 l1_5.length c1_5]] rfl (by (try simp only [map_toArray,map_cons,map_nil]);first|done|rfl|(simp only [length_drop,length_take];rfl)) ?_;(with_reducible refine (spec_ProducersCheck.calls k _ _ l0 a1_0 a1_1 a1_2 a1_3 a1_4 _ _ l1_5 t514 _ ?side1 ?side2 ?side3 ?side4 A3.out).mono ?_);(case side1=>repeat (first|exact (Kd.C_below HR0.out HB.out)|(with_reducible refine Kd.C_alloc ?_ _)|(with_reducible refine Kd.C_drewN ?_ _)|(with_reducible refine Kd.C_drew ?_)));(case side2=>exact HC0.out);(case side3=>repeat (first|exact (Kd.C_below HR1_5.out HB.out)|(with_reducible refine Kd.C_alloc ?_ _)|(with_reducible refine Kd.C_drewN ?_ _)|(with_reducible refine Kd.C_drew ?_)));(case side4=>exact HC1_5.out);rintro e w17 ⟨rfl,hb⟩;refine ⟨_,rfl,?_⟩;have n0_:=Aside0.mk (blk_below (g:=gb513) (o:=.cells #[.bool a1_0,.bool a1_1,.int .i64 a1_2,.int .i64 a1_3,.int .i64 a1_4,.slice A1_5 l1_5.length c1_5] 34 (0,0)) (by (with_reducible repeat (first|refine blk_drewN ?_ _|refine blk_drew ?_|refine blk_alloc ?_ _));exact BK513.out) hb);have n1_:=Aside0.mk (below_step (by repeat (first|(with_reducible first|exact HB.out|apply below_alloc|apply pw_below_drewN|apply below_drew1|refine below_set ?_ GE513.out)|exact HB.out)) hb);clear BK513 HB;have BK513:=n0_;have HB:=n1_;clear n0_ n1_;(try clear hb);(try clear hb2);(try clear hk);(try clear hi))|((with_reducible refine gate_dst (N:=14) rfl ?_);refine Kd.R_lit k39 _ 39 ?hg (N:=14) ?hd (xs:=([]:List (S39))) (inner:=[]) (ok:=fun _=>True) (okp:=fun _=>True) ?hr ?hp (fun _ hk=>hk) trivial (Below.refl _ _) (Nat.le_refl _) (by simp) ?_;(case hd=>rfl);(case hg=>rfl);(case hr=>first|(go_simp;done)|(go_simp;rfl));(case hp=>exact (Reps.none _ _));intro v519 w18 ho19 hb hg_ hnew_;clear hg_ hnew_;(first|rw [← Ny518.out] at ho19|(simp only [Int.reduceToNat] at ho19;rw [← Ny518.out] at ho19));have n0_:=Aside0.mk (Kd.R_lower ho19 (below_size (by repeat (first|(with_reducible first|exact HB.out|apply below_alloc|apply pw_below_drewN|apply below_drew1|refine below_set ?_ GE513.out)|exact HB.out))));have n1_:=Aside0.mk (blk_below (g:=gb513) (o:=.cells #[.bool a1_0,.bool a1_1,.int .i64 a1_2,.int .i64 a1_3,.int .i64 a1_4,.slice A1_5 l1_5.length c1_5] 34 (0,0)) (by (with_reducible repeat (first|refine blk_drewN ?_ _|refine blk_drew ?_|refine blk_alloc ?_ _));exact BK513.out) hb);have n2_:=Aside0.mk (below_step (by repeat (first|(with_reducible first|exact HB.out|apply below_alloc|apply pw_below_drewN|apply below_drew1|refine below_set ?_ GE513.out)|exact HB.out)) hb);clear BK513 HB;have HO520:=n0_;have BK513:=n1_;have HB:=n2_;clear n0_ n1_ n2_;clear hb ho19)|((with_reducible refine gate_builtin (b:=.append) (xs:=#[.tmp 14,.tmp 15]) rfl ?_);at_builtin;refine Kd.R_append_rows k39 (w0:=w) w.heap.size rfl (.tmp 14) (.tmp 15) 23 39 (.agg #[(.int .i64 0),(.int .i64 0),(.int .i64 0)]) 24 rfl Try.underlying23 info39 rfl (by decide) (by omega) v519 y518 l0 _ _ _ (fun _=>True) (fun _=>False) rfl rfl ?aO ?aR (fun _ _ h=>h) (fun _ h=>h.elim) ?aF ?aB ?aS ?aL ?_;(case aR=>repeat (first|exact (Kd.C_below HR0.out HB.out)|(with_reducible refine Kd.C_alloc ?_ _)|(with_reducible refine Kd.C_drewN ?_ _)|(with_reducible refine Kd.C_drew ?_)));(case aB=>exact (by repeat (first|(with_reducible first|exact HB.out|apply below_alloc|apply pw_below_drewN|apply below_drew1|refine below_set ?_ GE513.out)|exact HB.out)));(case aF=>exact (fun _ _=>trivial));(case aO=>exact (by (with_reducible repeat (first|apply Kd.R_alloc|apply Kd.R_drewN|apply Kd.R_drew));exact HO520.out));(case aS=>exact (below_size (by repeat (first|(with_reducible first|exact HB.out|apply below_alloc|apply pw_below_drewN|apply below_drew1|refine below_set ?_ GE513.out)|exact HB.out))));(case aL=>have:=LMc10.out;omega);intro v522 w20 ho hb hg hat;rw [← Ny521.out] at ho;have n0_:=Aside0.mk (blk_grown (g:=gb513) (o:=.cells #[.bool a1_0,.bool a1_1,.int .i64 a1_2,.int .i64 a1_3,.int .i64 a1_4,.slice A1_5 l1_5.length c1_5] 34 (0,0)) (by (with_reducible repeat (first|refine blk_drewN ?_ _|refine blk_drew ?_|refine blk_alloc ?_ _));exact BK513.out) hg (Kd.R_ne HO520.out BK513.out (by decide)));have n1_:=Aside0.mk (hb);have n2_:=Aside0.mk (ho);clear BK513 HB HO520;have BK513:=n0_;have HB:=n1_;have HO523:=n2_;clear n0_ n1_ n2_;clear ho hb hg hat;have hcz21_0:w20.cell? ⟨gb513,0,none⟩=some (.bool a1_0):=(blk_cell BK513.out 0).trans rfl;have hcz21_1:w20.cell? ⟨gb513,1,none⟩=some (.bool a1_1):=(blk_cell BK513.out 1).trans rfl;have hcz21_2:w20.cell? ⟨gb513,2,none⟩=some (.int .i64 a1_2):=(blk_cell BK513.out 2).trans rfl;have hcz21_3:w20.cell? ⟨gb513,3,none⟩=some (.int .i64 a1_3):=(blk_cell BK513.out 3).trans rfl;have hcz21_4:w20.cell? ⟨gb513,4,none⟩=some (.int .i64 a1_4):=(blk_cell BK513.out 4).trans rfl;have hcz21_5:w20.cell? ⟨gb513,5,none⟩=some (.slice A1_5 l1_5.length c1_5):=(blk_cell BK513.out 5).trans rfl;have hfz21_0:=blk_frozen BK513.out 0;have hfz21_1:=blk_frozen BK513.out 1;have hfz21_2:=blk_frozen BK513.out 2;have hfz21_3:=blk_frozen BK513.out 3;have hfz21_4:=blk_frozen BK513.out 4;have hfz21_5:=blk_frozen BK513.out 5)|((with_reducible refine gate_callee (f:=63) rfl ?_);refine goesL_ (some 31) rfl rfl Try.func63 (by kernel_rfl) rfl #[.slice A0 l0.length c0,.agg #[.int .i64 a1_2,.int .i64 a1_3,.int .i64 (wrap64 (a1_4+(l1_5.length:Int)))]] rfl (by (try simp only [map_toArray,map_cons,map_nil]);first|done|rfl|(simp only [length_drop,length_take];rfl)) ?_;(with_reducible refine (spec_l21Put.calls k _ _ l0 a1_2 a1_3 (wrap64 (a1_4+(l1_5.length:Int))) t524 _ ?side1 ?side2 A12.out).mono ?_);(case side1=>repeat (first|exact (Kd.C_below HR0.out HB.out)|(with_reducible refine Kd.C_alloc ?_ _)|(with_reducible refine Kd.C_drewN ?_ _)|(with_reducible refine Kd.C_drew ?_)));(case side2=>exact HC0.out);rintro e w22 ⟨v525,rfl,ho0,hb⟩;refine ⟨_,rfl,?_⟩;have n0_:=Aside0.mk (Kd.R_elder' (by (with_reducible repeat (first|apply Kd.R_alloc|apply Kd.R_drewN|apply Kd.R_drew));exact HO523.out) (Kd.R_base ho0) hb);have n1_:=Aside0.mk (Kd.R_lower (Kd.R_new' ho0 (Kd.R_lt (by (with_reducible repeat (first|apply Kd.R_alloc|apply Kd.R_drewN|apply Kd.R_drew));exact HO523.out))) (below_size (by repeat (first|(with_reducible first|exact HB.out|apply below_alloc|apply pw_below_drewN|apply below_drew1|refine below_set ?_ GE513.out)|exact HB.out))));have n2_:=Aside0.mk (blk_below (g:=gb513) (o:=.cells #[.bool a1_0,.bool a1_1,.int .i64 a1_2,.int .i64 a1_3,.int .i64 a1_4,.slice A1_5 l1_5.length c1_5] 34 (0,0)) (by (with_reducible repeat (first|refine blk_drewN ?_ _|refine blk_drew ?_|refine blk_alloc ?_ _));exact BK513.out) hb);have n3_:=Aside0.mk (below_step (by repeat (first|(with_reducible first|exact HB.out|apply below_alloc|apply pw_below_drewN|apply below_drew1|refine below_set ?_ GE513.out)|exact HB.out)) hb);clear HO523 BK513 HB;have HO523:=n0_;have HO526:=n1_;have BK513:=n2_;have HB:=n3_;clear n0_ n1_ n2_ n3_;(try clear hb);(try clear hb2);(try clear hk);(try clear hi);(try clear ho0);obtain ⟨Ao23,co23,eo23⟩:=Kd.R_slice HO526.out;subst eo23)|((with_reducible refine gate_callee (f:=20) rfl ?_);refine goesL_ (some 33) rfl rfl Try.func20 (by kernel_rfl) rfl #[.slice Ao23 t524.length co23] rfl (by (try simp only [map_toArray,map_cons,map_nil]);first|done|rfl|(simp only [length_drop,length_take];rfl)) ?_;(with_reducible refine (spec_ProducersValid.calls k _ _ t524 true _ ?side1 ?side2 A13.out).mono ?_);(case side1=>repeat (first|exact (Kd.R_reads' HO526.out).2.2|(with_reducible refine Kd.C_alloc ?_ _)|(with_reducible refine Kd.C_drewN ?_ _)|(with_reducible refine Kd.C_drew ?_)));(case side2=>exact (Kd.R_reads' HO526.out).2.1);rintro e w24 ⟨rfl,hb⟩;refine ⟨_,rfl,?_⟩;have n0_:=Aside0.mk (Kd.R_below (by (with_reducible repeat (first|apply Kd.R_alloc|apply Kd.R_drewN|apply Kd.R_drew));exact HO523.out) hb);have n1_:=Aside0.mk (Kd.R_below (by (with_reducible repeat (first|apply Kd.R_alloc|apply Kd.R_drewN|apply Kd.R_drew));exact HO526.out) hb);have n2_:=Aside0.mk (blk_below (g:=gb513) (o:=.cells #[.bool a1_0,.bool a1_1,.int .i64 a1_2,.int .i64 a1_3,.int .i64 a1_4,.slice A1_5 l1_5.length c1_5] 34 (0,0)) (by (with_reducible repeat (first|refine blk_drewN ?_ _|refine blk_drew ?_|refine blk_alloc ?_ _));exact BK513.out) hb);have n3_:=Aside0.mk (below_step (by repeat (first|(with_reducible first|exact HB.out|apply below_alloc|apply pw_below_drewN|apply below_drew1|refine below_set ?_ GE513.out)|exact HB.out)) hb);clear HO523 HO526 BK513 HB;have HO523:=n0_;have HO526:=n1_;have BK513:=n2_;have HB:=n3_;clear n0_ n1_ n2_ n3_;(try clear hb);(try clear hb2);(try clear hk);(try clear hi)))
     go_ret2
     exact ⟨_,by first|rfl|(simp [errW_none,errW_some] <;> rfl)|(simp [*,errW_none,errW_some] <;> rfl),by (with_reducible repeat (first|apply Kd.R_alloc|apply Kd.R_drewN|apply Kd.R_drew));exact Kd.R_mono HO526.out (fun _ hk=>trivial),by repeat (first|(with_reducible first|exact HB.out|apply below_alloc|apply pw_below_drewN|apply below_drew1|refine below_set ?_ GE513.out)|exact HB.out)⟩
    ·replace c14:=Bool.eq_false_iff.mpr c14
     subst c14
     have H1:(some ((([]:List (S39))),5))=some (r1,r2):=by rw [if_neg (show ¬ (false=true) by decide)] at H;exact H
     clear H
     have H:=H1
     clear H1
     obtain ⟨y528,hy528⟩:∃ y_:List (S39),y_=(([]:List (S39))):=⟨_,rfl⟩
     replace H:(some (y528,5))=some (r1,r2):=by first|(rw [hy528];with_reducible exact H)|(have H2_:=(Option.bind_some _ _).symm.trans H;rw [hy528];with_reducible exact H2_)|(have H2_:=(Option.bind_some _ _).symm.trans H;with_reducible exact H2_)|with_reducible exact H|(rw [hy528];exact H)|exact H
     have Ny528:=Aside0.mk hy528
     clear hy528
     simp only [Option.some.injEq,Prod.mk.injEq] at H
     obtain ⟨rfl,rfl⟩:=H
     go_enter Try.func30,Try.ntmps30
     go_wp2_with (first|((with_reducible refine gate_dst (N:=3) rfl ?_);refine box_event ?hg (N:=3) ?hd (cs:=#[.bool a1_0,.bool a1_1,.int .i64 a1_2,.int .i64 a1_3,.int .i64 a1_4,.slice A1_5 l1_5.length c1_5]) (t:=34) ?hr ?_;(case hd=>rfl);(case hg=>rfl);(case hr=>first|(go_simp;done)|(go_simp;rfl));intro gb513 hg w25 hbox hb;have n0_:=Aside0.mk (below_step (by repeat (first|(with_reducible first|exact HB.out|apply below_alloc|apply pw_below_drewN|apply below_drew1)|exact HB.out)) hb);have n1_:=Aside0.mk (hbox);have n2_:=Aside0.mk ((by rw [hg];exact (below_size (by repeat (first|(with_reducible first|exact HB.out|apply below_alloc|apply pw_below_drewN|apply below_drew1)|exact HB.out))):w.heap.size ≤ gb513));have n3_:=Aside0.mk ((by rw [hg];exact (below_size (by repeat (first|(with_reducible first|exact HB.out|apply below_alloc|apply pw_below_drewN|apply below_drew1)|exact HB.out))):w.heap.size ≤ gb513));clear HB;have HB:=n0_;have BK513:=n1_;have GW513:=n2_;have GE513:=n3_;clear n0_ n1_ n2_ n3_;clear hb hbox hg;have hcz26_0:w25.cell? ⟨gb513,0,none⟩=some (.bool a1_0):=(blk_cell BK513.out 0).trans rfl;have hcz26_1:w25.cell? ⟨gb513,1,none⟩=some (.bool a1_1):=(blk_cell BK513.out 1).trans rfl;have hcz26_2:w25.cell? ⟨gb513,2,none⟩=some (.int .i64 a1_2):=(blk_cell BK513.out 2).trans rfl;have hcz26_3:w25.cell? ⟨gb513,3,none⟩=some (.int .i64 a1_3):=(blk_cell BK513.out 3).trans rfl;have hcz26_4:w25.cell? ⟨gb513,4,none⟩=some (.int .i64 a1_4):=(blk_cell BK513.out 4).trans rfl;have hcz26_5:w25.cell? ⟨gb513,5,none⟩=some (.slice A1_5 l1_5.length c1_5):=(blk_cell BK513.out 5).trans rfl;have hfz26_0:=blk_frozen BK513.out 0;have hfz26_1:=blk_frozen BK513.out 1;have hfz26_2:=blk_frozen BK513.out 2;have hfz26_3:=blk_frozen BK513.out 3;have hfz26_4:=blk_frozen BK513.out 4;have hfz26_5:=blk_frozen BK513.out 5)|((with_reducible refine gate_callee (f:=26) rfl ?_);refine goesL_ (some 10) rfl rfl Try.func26 (by kernel_rfl) rfl #[.slice A0 l0.length c0,.agg #[.bool a1_0,.bool a1_1,.int .i64 a1_2,.int .i64 a1_3,.int .i64 a1_4,.slice A1_5 l1_5.length c1_5]] rfl (by (try simp only [map_toArray,map_cons,map_nil]);first|done|rfl|(simp only [length_drop,length_take];rfl)) ?_;(with_reducible refine (spec_ProducersCheck.calls k _ _ l0 a1_0 a1_1 a1_2 a1_3 a1_4 _ _ l1_5 t514 _ ?side1 ?side2 ?side3 ?side4 A3.out).mono ?_);(case side1=>repeat (first|exact (Kd.C_below HR0.out HB.out)|(with_reducible refine Kd.C_alloc ?_ _)|(with_reducible refine Kd.C_drewN ?_ _)|(with_reducible refine Kd.C_drew ?_)));(case side2=>exact HC0.out);(case side3=>repeat (first|exact (Kd.C_below HR1_5.out HB.out)|(with_reducible refine Kd.C_alloc ?_ _)|(with_reducible refine Kd.C_drewN ?_ _)|(with_reducible refine Kd.C_drew ?_)));(case side4=>exact HC1_5.out);rintro e w27 ⟨rfl,hb⟩;refine ⟨_,rfl,?_⟩;have n0_:=Aside0.mk (blk_below (g:=gb513) (o:=.cells #[.bool a1_0,.bool a1_1,.int .i64 a1_2,.int .i64 a1_3,.int .i64 a1_4,.slice A1_5 l1_5.length c1_5] 34 (0,0)) (by (with_reducible repeat (first|refine blk_drewN ?_ _|refine blk_drew ?_|refine blk_alloc ?_ _));exact BK513.out) hb);have n1_:=Aside0.mk (below_step (by repeat (first|(with_reducible first|exact HB.out|apply below_alloc|apply pw_below_drewN|apply below_drew1|refine below_set ?_ GE513.out)|exact HB.out)) hb);clear BK513 HB;have BK513:=n0_;have HB:=n1_;clear n0_ n1_;(try clear hb);(try clear hb2);(try clear hk);(try clear hi))|((with_reducible refine gate_dst (N:=14) rfl ?_);refine Kd.R_lit k39 _ 39 ?hg (N:=14) ?hd (xs:=([]:List (S39))) (inner:=[]) (ok:=fun _=>True) (okp:=fun _=>True) ?hr ?hp (fun _ hk=>hk) trivial (Below.refl _ _) (Nat.le_refl _) (by simp) ?_;(case hd=>rfl);(case hg=>rfl);(case hr=>first|(go_simp;done)|(go_simp;rfl));(case hp=>exact (Reps.none _ _));intro v519 w28 ho29 hb hg_ hnew_;clear hg_ hnew_;(first|rw [← Ny518.out] at ho29|(simp only [Int.reduceToNat] at ho29;rw [← Ny518.out] at ho29));have n0_:=Aside0.mk (Kd.R_lower ho29 (below_size (by repeat (first|(with_reducible first|exact HB.out|apply below_alloc|apply pw_below_drewN|apply below_drew1|refine below_set ?_ GE513.out)|exact HB.out))));have n1_:=Aside0.mk (blk_below (g:=gb513) (o:=.cells #[.bool a1_0,.bool a1_1,.int .i64 a1_2,.int .i64 a1_3,.int .i64 a1_4,.slice A1_5 l1_5.length c1_5] 34 (0,0)) (by (with_reducible repeat (first|refine blk_drewN ?_ _|refine blk_drew ?_|refine blk_alloc ?_ _));exact BK513.out) hb);have n2_:=Aside0.mk (below_step (by repeat (first|(with_reducible first|exact HB.out|apply below_alloc|apply pw_below_drewN|apply below_drew1|refine below_set ?_ GE513.out)|exact HB.out)) hb);clear BK513 HB;have HO520:=n0_;have BK513:=n1_;have HB:=n2_;clear n0_ n1_ n2_;clear hb ho29)|((with_reducible refine gate_builtin (b:=.append) (xs:=#[.tmp 14,.tmp 15]) rfl ?_);at_builtin;refine Kd.R_append_rows k39 (w0:=w) w.heap.size rfl (.tmp 14) (.tmp 15) 23 39 (.agg #[(.int .i64 0),(.int .i64 0),(.int .i64 0)]) 24 rfl Try.underlying23 info39 rfl (by decide) (by omega) v519 y518 l0 _ _ _ (fun _=>True) (fun _=>False) rfl rfl ?aO ?aR (fun _ _ h=>h) (fun _ h=>h.elim) ?aF ?aB ?aS ?aL ?_;(case aR=>repeat (first|exact (Kd.C_below HR0.out HB.out)|(with_reducible refine Kd.C_alloc ?_ _)|(with_reducible refine Kd.C_drewN ?_ _)|(with_reducible refine Kd.C_drew ?_)));(case aB=>exact (by repeat (first|(with_reducible first|exact HB.out|apply below_alloc|apply pw_below_drewN|apply below_drew1|refine below_set ?_ GE513.out)|exact HB.out)));(case aF=>exact (fun _ _=>trivial));(case aO=>exact (by (with_reducible repeat (first|apply Kd.R_alloc|apply Kd.R_drewN|apply Kd.R_drew));exact HO520.out));(case aS=>exact (below_size (by repeat (first|(with_reducible first|exact HB.out|apply below_alloc|apply pw_below_drewN|apply below_drew1|refine below_set ?_ GE513.out)|exact HB.out))));(case aL=>have:=LMc10.out;omega);intro v522 w30 ho hb hg hat;rw [← Ny521.out] at ho;have n0_:=Aside0.mk (blk_grown (g:=gb513) (o:=.cells #[.bool a1_0,.bool a1_1,.int .i64 a1_2,.int .i64 a1_3,.int .i64 a1_4,.slice A1_5 l1_5.length c1_5] 34 (0,0)) (by (with_reducible repeat (first|refine blk_drewN ?_ _|refine blk_drew ?_|refine blk_alloc ?_ _));exact BK513.out) hg (Kd.R_ne HO520.out BK513.out (by decide)));have n1_:=Aside0.mk (hb);have n2_:=Aside0.mk (ho);clear BK513 HB HO520;have BK513:=n0_;have HB:=n1_;have HO523:=n2_;clear n0_ n1_ n2_;clear ho hb hg hat;have hcz31_0:w30.cell? ⟨gb513,0,none⟩=some (.bool a1_0):=(blk_cell BK513.out 0).trans rfl;have hcz31_1:w30.cell? ⟨gb513,1,none⟩=some (.bool a1_1):=(blk_cell BK513.out 1).trans rfl;have hcz31_2:w30.cell? ⟨gb513,2,none⟩=some (.int .i64 a1_2):=(blk_cell BK513.out 2).trans rfl;have hcz31_3:w30.cell? ⟨gb513,3,none⟩=some (.int .i64 a1_3):=(blk_cell BK513.out 3).trans rfl;have hcz31_4:w30.cell? ⟨gb513,4,none⟩=some (.int .i64 a1_4):=(blk_cell BK513.out 4).trans rfl;have hcz31_5:w30.cell? ⟨gb513,5,none⟩=some (.slice A1_5 l1_5.length c1_5):=(blk_cell BK513.out 5).trans rfl;have hfz31_0:=blk_frozen BK513.out 0;have hfz31_1:=blk_frozen BK513.out 1;have hfz31_2:=blk_frozen BK513.out 2;have hfz31_3:=blk_frozen BK513.out 3;have hfz31_4:=blk_frozen BK513.out 4;have hfz31_5:=blk_frozen BK513.out 5)|((with_reducible refine gate_callee (f:=63) rfl ?_);refine goesL_ (some 31) rfl rfl Try.func63 (by kernel_rfl) rfl #[.slice A0 l0.length c0,.agg #[.int .i64 a1_2,.int .i64 a1_3,.int .i64 (wrap64 (a1_4+(l1_5.length:Int)))]] rfl (by (try simp only [map_toArray,map_cons,map_nil]);first|done|rfl|(simp only [length_drop,length_take];rfl)) ?_;(with_reducible refine (spec_l21Put.calls k _ _ l0 a1_2 a1_3 (wrap64 (a1_4+(l1_5.length:Int))) t524 _ ?side1 ?side2 A12.out).mono ?_);(case side1=>repeat (first|exact (Kd.C_below HR0.out HB.out)|(with_reducible refine Kd.C_alloc ?_ _)|(with_reducible refine Kd.C_drewN ?_ _)|(with_reducible refine Kd.C_drew ?_)));(case side2=>exact HC0.out);rintro e w32 ⟨v525,rfl,ho0,hb⟩;refine ⟨_,rfl,?_⟩;have n0_:=Aside0.mk (Kd.R_elder' (by (with_reducible repeat (first|apply Kd.R_alloc|apply Kd.R_drewN|apply Kd.R_drew));exact HO523.out) (Kd.R_base ho0) hb);have n1_:=Aside0.mk (Kd.R_lower (Kd.R_new' ho0 (Kd.R_lt (by (with_reducible repeat (first|apply Kd.R_alloc|apply Kd.R_drewN|apply Kd.R_drew));exact HO523.out))) (below_size (by repeat (first|(with_reducible first|exact HB.out|apply below_alloc|apply pw_below_drewN|apply below_drew1|refine below_set ?_ GE513.out)|exact HB.out))));have n2_:=Aside0.mk (blk_below (g:=gb513) (o:=.cells #[.bool a1_0,.bool a1_1,.int .i64 a1_2,.int .i64 a1_3,.int .i64 a1_4,.slice A1_5 l1_5.length c1_5] 34 (0,0)) (by (with_reducible repeat (first|refine blk_drewN ?_ _|refine blk_drew ?_|refine blk_alloc ?_ _));exact BK513.out) hb);have n3_:=Aside0.mk (below_step (by repeat (first|(with_reducible first|exact HB.out|apply below_alloc|apply pw_below_drewN|apply below_drew1|refine below_set ?_ GE513.out)|exact HB.out)) hb);clear HO523 BK513 HB;have HO523:=n0_;have HO526:=n1_;have BK513:=n2_;have HB:=n3_;clear n0_ n1_ n2_ n3_;(try clear hb);(try clear hb2);(try clear hk);(try clear hi);(try clear ho0);obtain ⟨Ao33,co33,eo33⟩:=Kd.R_slice HO526.out;subst eo33)|((with_reducible refine gate_callee (f:=20) rfl ?_);refine goesL_ (some 33) rfl rfl Try.func20 (by kernel_rfl) rfl #[.slice Ao33 t524.length co33] rfl (by (try simp only [map_toArray,map_cons,map_nil]);first|done|rfl|(simp only [length_drop,length_take];rfl)) ?_;(with_reducible refine (spec_ProducersValid.calls k _ _ t524 false _ ?side1 ?side2 A13.out).mono ?_);(case side1=>repeat (first|exact (Kd.R_reads' HO526.out).2.2|(with_reducible refine Kd.C_alloc ?_ _)|(with_reducible refine Kd.C_drewN ?_ _)|(with_reducible refine Kd.C_drew ?_)));(case side2=>exact (Kd.R_reads' HO526.out).2.1);rintro e w34 ⟨rfl,hb⟩;refine ⟨_,rfl,?_⟩;have n0_:=Aside0.mk (Kd.R_below (by (with_reducible repeat (first|apply Kd.R_alloc|apply Kd.R_drewN|apply Kd.R_drew));exact HO523.out) hb);have n1_:=Aside0.mk (Kd.R_below (by (with_reducible repeat (first|apply Kd.R_alloc|apply Kd.R_drewN|apply Kd.R_drew));exact HO526.out) hb);have n2_:=Aside0.mk (blk_below (g:=gb513) (o:=.cells #[.bool a1_0,.bool a1_1,.int .i64 a1_2,.int .i64 a1_3,.int .i64 a1_4,.slice A1_5 l1_5.length c1_5] 34 (0,0)) (by (with_reducible repeat (first|refine blk_drewN ?_ _|refine blk_drew ?_|refine blk_alloc ?_ _));exact BK513.out) hb);have n3_:=Aside0.mk (below_step (by repeat (first|(with_reducible first|exact HB.out|apply below_alloc|apply pw_below_drewN|apply below_drew1|refine below_set ?_ GE513.out)|exact HB.out)) hb);clear HO523 HO526 BK513 HB;have HO523:=n0_;have HO526:=n1_;have BK513:=n2_;have HB:=n3_;clear n0_ n1_ n2_ n3_;(try clear hb);(try clear hb2);(try clear hk);(try clear hi))|((with_reducible refine gate_dst (N:=35) rfl ?_);refine Kd.R_lit k39 _ 39 ?hg (N:=35) ?hd (xs:=([]:List (S39))) (inner:=[]) (ok:=fun _=>True) (okp:=fun _=>True) ?hr ?hp (fun _ hk=>hk) trivial (Below.refl _ _) (Nat.le_refl _) (by simp) ?_;(case hd=>rfl);(case hg=>rfl);(case hr=>first|(go_simp;done)|(go_simp;rfl));(case hp=>exact (Reps.none _ _));intro v529 w35 ho36 hb hg_ hnew_;clear hg_ hnew_;(first|rw [← Ny528.out] at ho36|(simp only [Int.reduceToNat] at ho36;rw [← Ny528.out] at ho36));have n0_:=Aside0.mk (Kd.R_elder' (by (with_reducible repeat (first|apply Kd.R_alloc|apply Kd.R_drewN|apply Kd.R_drew));exact HO523.out) (Kd.R_base ho36) hb);have n1_:=Aside0.mk (Kd.R_elder' (by (with_reducible repeat (first|apply Kd.R_alloc|apply Kd.R_drewN|apply Kd.R_drew));exact HO526.out) (Kd.R_base ho36) hb);have n2_:=Aside0.mk (Kd.R_lower (Kd.R_new' (Kd.R_new' ho36 (Kd.R_lt (by (with_reducible repeat (first|apply Kd.R_alloc|apply Kd.R_drewN|apply Kd.R_drew));exact HO523.out))) (Kd.R_lt (by (with_reducible repeat (first|apply Kd.R_alloc|apply Kd.R_drewN|apply Kd.R_drew));exact HO526.out))) (below_size (by repeat (first|(with_reducible first|exact HB.out|apply below_alloc|apply pw_below_drewN|apply below_drew1|refine below_set ?_ GE513.out)|exact HB.out))));have n3_:=Aside0.mk (blk_below (g:=gb513) (o:=.cells #[.bool a1_0,.bool a1_1,.int .i64 a1_2,.int .i64 a1_3,.int .i64 a1_4,.slice A1_5 l1_5.length c1_5] 34 (0,0)) (by (with_reducible repeat (first|refine blk_drewN ?_ _|refine blk_drew ?_|refine blk_alloc ?_ _));exact BK513.out) hb);have n4_:=Aside0.mk (below_step (by repeat (first|(with_reducible first|exact HB.out|apply below_alloc|apply pw_below_drewN|apply below_drew1|refine below_set ?_ GE513.out)|exact HB.out)) hb);clear HO523 HO526 BK513 HB;have HO523:=n0_;have HO526:=n1_;have HO530:=n2_;have BK513:=n3_;have HB:=n4_;clear n0_ n1_ n2_ n3_ n4_;clear hb ho36))
     go_ret2
     exact ⟨_,by first|rfl|(simp [errW_none,errW_some] <;> rfl)|(simp [*,errW_none,errW_some] <;> rfl),by (with_reducible repeat (first|apply Kd.R_alloc|apply Kd.R_drewN|apply Kd.R_drew));exact Kd.R_mono HO530.out (fun _ hk=>trivial),by repeat (first|(with_reducible first|exact HB.out|apply below_alloc|apply pw_below_drewN|apply below_drew1|refine below_set ?_ GE513.out)|exact HB.out)⟩
   ·rw [if_neg c11] at H
    have c11b0:(t514 == 0)=false:=beq_eq_false_iff_ne.mpr c11
    have c11b1:(t514 != 0)=true:=bne_iff_ne.mpr c11
    replace H:=Option.bind_eq_some_iff.mp H
    obtain ⟨t531,A370,H⟩:=H
    replace H:(if t531=true then (some (y521,t514)) else (some ((([]:List (S39))),5)))=some (r1,r2):=H
    have A37:=Aside0.mk A370
    clear A370
    by_cases c38:t531=true
    ·subst c38
     have H1:(some (y521,t514))=some (r1,r2):=by rw [if_pos rfl] at H;exact H
     clear H
     have H:=H1
     clear H1
     simp only [Option.some.injEq,Prod.mk.injEq] at H
     obtain ⟨rfl,rfl⟩:=H
     go_enter Try.func30,Try.ntmps30
     go_wp2_with (first|((with_reducible refine gate_dst (N:=3) rfl ?_);refine box_event ?hg (N:=3) ?hd (cs:=#[.bool a1_0,.bool a1_1,.int .i64 a1_2,.int .i64 a1_3,.int .i64 a1_4,.slice A1_5 l1_5.length c1_5]) (t:=34) ?hr ?_;(case hd=>rfl);(case hg=>rfl);(case hr=>first|(go_simp;done)|(go_simp;rfl));intro gb513 hg w39 hbox hb;have n0_:=Aside0.mk (below_step (by repeat (first|(with_reducible first|exact HB.out|apply below_alloc|apply pw_below_drewN|apply below_drew1)|exact HB.out)) hb);have n1_:=Aside0.mk (hbox);have n2_:=Aside0.mk ((by rw [hg];exact (below_size (by repeat (first|(with_reducible first|exact HB.out|apply below_alloc|apply pw_below_drewN|apply below_drew1)|exact HB.out))):w.heap.size ≤ gb513));have n3_:=Aside0.mk ((by rw [hg];exact (below_size (by repeat (first|(with_reducible first|exact HB.out|apply below_alloc|apply pw_below_drewN|apply below_drew1)|exact HB.out))):w.heap.size ≤ gb513));clear HB;have HB:=n0_;have BK513:=n1_;have GW513:=n2_;have GE513:=n3_;clear n0_ n1_ n2_ n3_;clear hb hbox hg;have hcz40_0:w39.cell? ⟨gb513,0,none⟩=some (.bool a1_0):=(blk_cell BK513.out 0).trans rfl;have hcz40_1:w39.cell? ⟨gb513,1,none⟩=some (.bool a1_1):=(blk_cell BK513.out 1).trans rfl;have hcz40_2:w39.cell? ⟨gb513,2,none⟩=some (.int .i64 a1_2):=(blk_cell BK513.out 2).trans rfl;have hcz40_3:w39.cell? ⟨gb513,3,none⟩=some (.int .i64 a1_3):=(blk_cell BK513.out 3).trans rfl;have hcz40_4:w39.cell? ⟨gb513,4,none⟩=some (.int .i64 a1_4):=(blk_cell BK513.out 4).trans rfl;have hcz40_5:w39.cell? ⟨gb513,5,none⟩=some (.slice A1_5 l1_5.length c1_5):=(blk_cell BK513.out 5).trans rfl;have hfz40_0:=blk_frozen BK513.out 0;have hfz40_1:=blk_frozen BK513.out 1;have hfz40_2:=blk_frozen BK513.out 2;have hfz40_3:=blk_frozen BK513.out 3;have hfz40_4:=blk_frozen BK513.out 4;have hfz40_5:=blk_frozen BK513.out 5)|((with_reducible refine gate_callee (f:=26) rfl ?_);refine goesL_ (some 10) rfl rfl Try.func26 (by kernel_rfl) rfl #[.slice A0 l0.length c0,.agg #[.bool a1_0,.bool a1_1,.int .i64 a1_2,.int .i64 a1_3,.int .i64 a1_4,.slice A1_5 l1_5.length c1_5]] rfl (by (try simp only [map_toArray,map_cons,map_nil]);first|done|rfl|(simp only [length_drop,length_take];rfl)) ?_;(with_reducible refine (spec_ProducersCheck.calls k _ _ l0 a1_0 a1_1 a1_2 a1_3 a1_4 _ _ l1_5 t514 _ ?side1 ?side2 ?side3 ?side4 A3.out).mono ?_);(case side1=>repeat (first|exact (Kd.C_below HR0.out HB.out)|(with_reducible refine Kd.C_alloc ?_ _)|(with_reducible refine Kd.C_drewN ?_ _)|(with_reducible refine Kd.C_drew ?_)));(case side2=>exact HC0.out);(case side3=>repeat (first|exact (Kd.C_below HR1_5.out HB.out)|(with_reducible refine Kd.C_alloc ?_ _)|(with_reducible refine Kd.C_drewN ?_ _)|(with_reducible refine Kd.C_drew ?_)));(case side4=>exact HC1_5.out);rintro e w41 ⟨rfl,hb⟩;refine ⟨_,rfl,?_⟩;have n0_:=Aside0.mk (blk_below (g:=gb513) (o:=.cells #[.bool a1_0,.bool a1_1,.int .i64 a1_2,.int .i64 a1_3,.int .i64 a1_4,.slice A1_5 l1_5.length c1_5] 34 (0,0)) (by (with_reducible repeat (first|refine blk_drewN ?_ _|refine blk_drew ?_|refine blk_alloc ?_ _));exact BK513.out) hb);have n1_:=Aside0.mk (below_step (by repeat (first|(with_reducible first|exact HB.out|apply below_alloc|apply pw_below_drewN|apply below_drew1|refine below_set ?_ GE513.out)|exact HB.out)) hb);clear BK513 HB;have BK513:=n0_;have HB:=n1_;clear n0_ n1_;(try clear hb);(try clear hb2);(try clear hk);(try clear hi))|((with_reducible refine gate_dst (N:=14) rfl ?_);refine Kd.R_lit k39 _ 39 ?hg (N:=14) ?hd (xs:=([]:List (S39))) (inner:=[]) (ok:=fun _=>True) (okp:=fun _=>True) ?hr ?hp (fun _ hk=>hk) trivial (Below.refl _ _) (Nat.le_refl _) (by simp) ?_;(case hd=>rfl);(case hg=>rfl);(case hr=>first|(go_simp;done)|(go_simp;rfl));(case hp=>exact (Reps.none _ _));intro v519 w42 ho43 hb hg_ hnew_;clear hg_ hnew_;(first|rw [← Ny518.out] at ho43|(simp only [Int.reduceToNat] at ho43;rw [← Ny518.out] at ho43));have n0_:=Aside0.mk (Kd.R_lower ho43 (below_size (by repeat (first|(with_reducible first|exact HB.out|apply below_alloc|apply pw_below_drewN|apply below_drew1|refine below_set ?_ GE513.out)|exact HB.out))));have n1_:=Aside0.mk (blk_below (g:=gb513) (o:=.cells #[.bool a1_0,.bool a1_1,.int .i64 a1_2,.int .i64 a1_3,.int .i64 a1_4,.slice A1_5 l1_5.length c1_5] 34 (0,0)) (by (with_reducible repeat (first|refine blk_drewN ?_ _|refine blk_drew ?_|refine blk_alloc ?_ _));exact BK513.out) hb);have n2_:=Aside0.mk (below_step (by repeat (first|(with_reducible first|exact HB.out|apply below_alloc|apply pw_below_drewN|apply below_drew1|refine below_set ?_ GE513.out)|exact HB.out)) hb);clear BK513 HB;have HO520:=n0_;have BK513:=n1_;have HB:=n2_;clear n0_ n1_ n2_;clear hb ho43)|((with_reducible refine gate_builtin (b:=.append) (xs:=#[.tmp 14,.tmp 15]) rfl ?_);at_builtin;refine Kd.R_append_rows k39 (w0:=w) w.heap.size rfl (.tmp 14) (.tmp 15) 23 39 (.agg #[(.int .i64 0),(.int .i64 0),(.int .i64 0)]) 24 rfl Try.underlying23 info39 rfl (by decide) (by omega) v519 y518 l0 _ _ _ (fun _=>True) (fun _=>False) rfl rfl ?aO ?aR (fun _ _ h=>h) (fun _ h=>h.elim) ?aF ?aB ?aS ?aL ?_;(case aR=>repeat (first|exact (Kd.C_below HR0.out HB.out)|(with_reducible refine Kd.C_alloc ?_ _)|(with_reducible refine Kd.C_drewN ?_ _)|(with_reducible refine Kd.C_drew ?_)));(case aB=>exact (by repeat (first|(with_reducible first|exact HB.out|apply below_alloc|apply pw_below_drewN|apply below_drew1|refine below_set ?_ GE513.out)|exact HB.out)));(case aF=>exact (fun _ _=>trivial));(case aO=>exact (by (with_reducible repeat (first|apply Kd.R_alloc|apply Kd.R_drewN|apply Kd.R_drew));exact HO520.out));(case aS=>exact (below_size (by repeat (first|(with_reducible first|exact HB.out|apply below_alloc|apply pw_below_drewN|apply below_drew1|refine below_set ?_ GE513.out)|exact HB.out))));(case aL=>have:=LMc10.out;omega);intro v522 w44 ho hb hg hat;rw [← Ny521.out] at ho;have n0_:=Aside0.mk (blk_grown (g:=gb513) (o:=.cells #[.bool a1_0,.bool a1_1,.int .i64 a1_2,.int .i64 a1_3,.int .i64 a1_4,.slice A1_5 l1_5.length c1_5] 34 (0,0)) (by (with_reducible repeat (first|refine blk_drewN ?_ _|refine blk_drew ?_|refine blk_alloc ?_ _));exact BK513.out) hg (Kd.R_ne HO520.out BK513.out (by decide)));have n1_:=Aside0.mk (hb);have n2_:=Aside0.mk (ho);clear BK513 HB HO520;have BK513:=n0_;have HB:=n1_;have HO523:=n2_;clear n0_ n1_ n2_;clear ho hb hg hat;obtain ⟨Ao45,co45,eo45⟩:=Kd.R_slice HO523.out;subst eo45)|((with_reducible refine gate_callee (f:=20) rfl ?_);refine goesL_ (some 33) rfl rfl Try.func20 (by kernel_rfl) rfl #[.slice Ao45 y521.length co45] rfl (by (try simp only [map_toArray,map_cons,map_nil]);first|done|rfl|(simp only [length_drop,length_take];rfl)) ?_;(with_reducible refine (spec_ProducersValid.calls k _ _ y521 true _ ?side1 ?side2 A37.out).mono ?_);(case side1=>repeat (first|exact (Kd.R_reads' HO523.out).2.2|(with_reducible refine Kd.C_alloc ?_ _)|(with_reducible refine Kd.C_drewN ?_ _)|(with_reducible refine Kd.C_drew ?_)));(case side2=>exact (Kd.R_reads' HO523.out).2.1);rintro e w46 ⟨rfl,hb⟩;refine ⟨_,rfl,?_⟩;have n0_:=Aside0.mk (Kd.R_below (by (with_reducible repeat (first|apply Kd.R_alloc|apply Kd.R_drewN|apply Kd.R_drew));exact HO523.out) hb);have n1_:=Aside0.mk (blk_below (g:=gb513) (o:=.cells #[.bool a1_0,.bool a1_1,.int .i64 a1_2,.int .i64 a1_3,.int .i64 a1_4,.slice A1_5 l1_5.length c1_5] 34 (0,0)) (by (with_reducible repeat (first|refine blk_drewN ?_ _|refine blk_drew ?_|refine blk_alloc ?_ _));exact BK513.out) hb);have n2_:=Aside0.mk (below_step (by repeat (first|(with_reducible first|exact HB.out|apply below_alloc|apply pw_below_drewN|apply below_drew1|refine below_set ?_ GE513.out)|exact HB.out)) hb);clear HO523 BK513 HB;have HO523:=n0_;have BK513:=n1_;have HB:=n2_;clear n0_ n1_ n2_;(try clear hb);(try clear hb2);(try clear hk);(try clear hi)))
     go_ret2
     exact ⟨_,by first|rfl|(simp [errW_none,errW_some] <;> rfl)|(simp [*,errW_none,errW_some] <;> rfl),by (with_reducible repeat (first|apply Kd.R_alloc|apply Kd.R_drewN|apply Kd.R_drew));exact HO523.out,by repeat (first|(with_reducible first|exact HB.out|apply below_alloc|apply pw_below_drewN|apply below_drew1|refine below_set ?_ GE513.out)|exact HB.out)⟩
    ·replace c38:=Bool.eq_false_iff.mpr c38
     subst c38
     have H1:(some ((([]:List (S39))),5))=some (r1,r2):=by rw [if_neg (show ¬ (false=true) by decide)] at H;exact H
     clear H
     have H:=H1
     clear H1
     obtain ⟨y532,hy532⟩:∃ y_:List (S39),y_=(([]:List (S39))):=⟨_,rfl⟩
     replace H:(some (y532,5))=some (r1,r2):=by first|(rw [hy532];with_reducible exact H)|(have H2_:=(Option.bind_some _ _).symm.trans H;rw [hy532];with_reducible exact H2_)|(have H2_:=(Option.bind_some _ _).symm.trans H;with_reducible exact H2_)|with_reducible exact H|(rw [hy532];exact H)|exact H
     have Ny532:=Aside0.mk hy532
     clear hy532
     simp only [Option.some.injEq,Prod.mk.injEq] at H
     obtain ⟨rfl,rfl⟩:=H
     go_enter Try.func30,Try.ntmps30
     go_wp2_with (first|((with_reducible refine gate_dst (N:=3) rfl ?_);refine box_event ?hg (N:=3) ?hd (cs:=#[.bool a1_0,.bool a1_1,.int .i64 a1_2,.int .i64 a1_3,.int .i64 a1_4,.slice A1_5 l1_5.length c1_5]) (t:=34) ?hr ?_;(case hd=>rfl);(case hg=>rfl);(case hr=>first|(go_simp;done)|(go_simp;rfl));intro gb513 hg w47 hbox hb;have n0_:=Aside0.mk (below_step (by repeat (first|(with_reducible first|exact HB.out|apply below_alloc|apply pw_below_drewN|apply below_drew1)|exact HB.out)) hb);have n1_:=Aside0.mk (hbox);have n2_:=Aside0.mk ((by rw [hg];exact (below_size (by repeat (first|(with_reducible first|exact HB.out|apply below_alloc|apply pw_below_drewN|apply below_drew1)|exact HB.out))):w.heap.size ≤ gb513));have n3_:=Aside0.mk ((by rw [hg];exact (below_size (by repeat (first|(with_reducible first|exact HB.out|apply below_alloc|apply pw_below_drewN|apply below_drew1)|exact HB.out))):w.heap.size ≤ gb513));clear HB;have HB:=n0_;have BK513:=n1_;have GW513:=n2_;have GE513:=n3_;clear n0_ n1_ n2_ n3_;clear hb hbox hg;have hcz48_0:w47.cell? ⟨gb513,0,none⟩=some (.bool a1_0):=(blk_cell BK513.out 0).trans rfl;have hcz48_1:w47.cell? ⟨gb513,1,none⟩=some (.bool a1_1):=(blk_cell BK513.out 1).trans rfl;have hcz48_2:w47.cell? ⟨gb513,2,none⟩=some (.int .i64 a1_2):=(blk_cell BK513.out 2).trans rfl;have hcz48_3:w47.cell? ⟨gb513,3,none⟩=some (.int .i64 a1_3):=(blk_cell BK513.out 3).trans rfl;have hcz48_4:w47.cell? ⟨gb513,4,none⟩=some (.int .i64 a1_4):=(blk_cell BK513.out 4).trans rfl;have hcz48_5:w47.cell? ⟨gb513,5,none⟩=some (.slice A1_5 l1_5.length c1_5):=(blk_cell BK513.out 5).trans rfl;have hfz48_0:=blk_frozen BK513.out 0;have hfz48_1:=blk_frozen BK513.out 1;have hfz48_2:=blk_frozen BK513.out 2;have hfz48_3:=blk_frozen BK513.out 3;have hfz48_4:=blk_frozen BK513.out 4;have hfz48_5:=blk_frozen BK513.out 5)|((with_reducible refine gate_callee (f:=26) rfl ?_);refine goesL_ (some 10) rfl rfl Try.func26 (by kernel_rfl) rfl #[.slice A0 l0.length c0,.agg #[.bool a1_0,.bool a1_1,.int .i64 a1_2,.int .i64 a1_3,.int .i64 a1_4,.slice A1_5 l1_5.length c1_5]] rfl (by (try simp only [map_toArray,map_cons,map_nil]);first|done|rfl|(simp only [length_drop,length_take];rfl)) ?_;(with_reducible refine (spec_ProducersCheck.calls k _ _ l0 a1_0 a1_1 a1_2 a1_3 a1_4 _ _ l1_5 t514 _ ?side1 ?side2 ?side3 ?side4 A3.out).mono ?_);(case side1=>repeat (first|exact (Kd.C_below HR0.out HB.out)|(with_reducible refine Kd.C_alloc ?_ _)|(with_reducible refine Kd.C_drewN ?_ _)|(with_reducible refine Kd.C_drew ?_)));(case side2=>exact HC0.out);(case side3=>repeat (first|exact (Kd.C_below HR1_5.out HB.out)|(with_reducible refine Kd.C_alloc ?_ _)|(with_reducible refine Kd.C_drewN ?_ _)|(with_reducible refine Kd.C_drew ?_)));(case side4=>exact HC1_5.out);rintro e w49 ⟨rfl,hb⟩;refine ⟨_,rfl,?_⟩;have n0_:=Aside0.mk (blk_below (g:=gb513) (o:=.cells #[.bool a1_0,.bool a1_1,.int .i64 a1_2,.int .i64 a1_3,.int .i64 a1_4,.slice A1_5 l1_5.length c1_5] 34 (0,0)) (by (with_reducible repeat (first|refine blk_drewN ?_ _|refine blk_drew ?_|refine blk_alloc ?_ _));exact BK513.out) hb);have n1_:=Aside0.mk (below_step (by repeat (first|(with_reducible first|exact HB.out|apply below_alloc|apply pw_below_drewN|apply below_drew1|refine below_set ?_ GE513.out)|exact HB.out)) hb);clear BK513 HB;have BK513:=n0_;have HB:=n1_;clear n0_ n1_;(try clear hb);(try clear hb2);(try clear hk);(try clear hi))|((with_reducible refine gate_dst (N:=14) rfl ?_);refine Kd.R_lit k39 _ 39 ?hg (N:=14) ?hd (xs:=([]:List (S39))) (inner:=[]) (ok:=fun _=>True) (okp:=fun _=>True) ?hr ?hp (fun _ hk=>hk) trivial (Below.refl _ _) (Nat.le_refl _) (by simp) ?_;(case hd=>rfl);(case hg=>rfl);(case hr=>first|(go_simp;done)|(go_simp;rfl));(case hp=>exact (Reps.none _ _));intro v519 w50 ho51 hb hg_ hnew_;clear hg_ hnew_;(first|rw [← Ny518.out] at ho51|(simp only [Int.reduceToNat] at ho51;rw [← Ny518.out] at ho51));have n0_:=Aside0.mk (Kd.R_lower ho51 (below_size (by repeat (first|(with_reducible first|exact HB.out|apply below_alloc|apply pw_below_drewN|apply below_drew1|refine below_set ?_ GE513.out)|exact HB.out))));have n1_:=Aside0.mk (blk_below (g:=gb513) (o:=.cells #[.bool a1_0,.bool a1_1,.int .i64 a1_2,.int .i64 a1_3,.int .i64 a1_4,.slice A1_5 l1_5.length c1_5] 34 (0,0)) (by (with_reducible repeat (first|refine blk_drewN ?_ _|refine blk_drew ?_|refine blk_alloc ?_ _));exact BK513.out) hb);have n2_:=Aside0.mk (below_step (by repeat (first|(with_reducible first|exact HB.out|apply below_alloc|apply pw_below_drewN|apply below_drew1|refine below_set ?_ GE513.out)|exact HB.out)) hb);clear BK513 HB;have HO520:=n0_;have BK513:=n1_;have HB:=n2_;clear n0_ n1_ n2_;clear hb ho51)|((with_reducible refine gate_builtin (b:=.append) (xs:=#[.tmp 14,.tmp 15]) rfl ?_);at_builtin;refine Kd.R_append_rows k39 (w0:=w) w.heap.size rfl (.tmp 14) (.tmp 15) 23 39 (.agg #[(.int .i64 0),(.int .i64 0),(.int .i64 0)]) 24 rfl Try.underlying23 info39 rfl (by decide) (by omega) v519 y518 l0 _ _ _ (fun _=>True) (fun _=>False) rfl rfl ?aO ?aR (fun _ _ h=>h) (fun _ h=>h.elim) ?aF ?aB ?aS ?aL ?_;(case aR=>repeat (first|exact (Kd.C_below HR0.out HB.out)|(with_reducible refine Kd.C_alloc ?_ _)|(with_reducible refine Kd.C_drewN ?_ _)|(with_reducible refine Kd.C_drew ?_)));(case aB=>exact (by repeat (first|(with_reducible first|exact HB.out|apply below_alloc|apply pw_below_drewN|apply below_drew1|refine below_set ?_ GE513.out)|exact HB.out)));(case aF=>exact (fun _ _=>trivial));(case aO=>exact (by (with_reducible repeat (first|apply Kd.R_alloc|apply Kd.R_drewN|apply Kd.R_drew));exact HO520.out));(case aS=>exact (below_size (by repeat (first|(with_reducible first|exact HB.out|apply below_alloc|apply pw_below_drewN|apply below_drew1|refine below_set ?_ GE513.out)|exact HB.out))));(case aL=>have:=LMc10.out;omega);intro v522 w52 ho hb hg hat;rw [← Ny521.out] at ho;have n0_:=Aside0.mk (blk_grown (g:=gb513) (o:=.cells #[.bool a1_0,.bool a1_1,.int .i64 a1_2,.int .i64 a1_3,.int .i64 a1_4,.slice A1_5 l1_5.length c1_5] 34 (0,0)) (by (with_reducible repeat (first|refine blk_drewN ?_ _|refine blk_drew ?_|refine blk_alloc ?_ _));exact BK513.out) hg (Kd.R_ne HO520.out BK513.out (by decide)));have n1_:=Aside0.mk (hb);have n2_:=Aside0.mk (ho);clear BK513 HB HO520;have BK513:=n0_;have HB:=n1_;have HO523:=n2_;clear n0_ n1_ n2_;clear ho hb hg hat;obtain ⟨Ao53,co53,eo53⟩:=Kd.R_slice HO523.out;subst eo53)|((with_reducible refine gate_callee (f:=20) rfl ?_);refine goesL_ (some 33) rfl rfl Try.func20 (by kernel_rfl) rfl #[.slice Ao53 y521.length co53] rfl (by (try simp only [map_toArray,map_cons,map_nil]);first|done|rfl|(simp only [length_drop,length_take];rfl)) ?_;(with_reducible refine (spec_ProducersValid.calls k _ _ y521 false _ ?side1 ?side2 A37.out).mono ?_);(case side1=>repeat (first|exact (Kd.R_reads' HO523.out).2.2|(with_reducible refine Kd.C_alloc ?_ _)|(with_reducible refine Kd.C_drewN ?_ _)|(with_reducible refine Kd.C_drew ?_)));(case side2=>exact (Kd.R_reads' HO523.out).2.1);rintro e w54 ⟨rfl,hb⟩;refine ⟨_,rfl,?_⟩;have n0_:=Aside0.mk (Kd.R_below (by (with_reducible repeat (first|apply Kd.R_alloc|apply Kd.R_drewN|apply Kd.R_drew));exact HO523.out) hb);have n1_:=Aside0.mk (blk_below (g:=gb513) (o:=.cells #[.bool a1_0,.bool a1_1,.int .i64 a1_2,.int .i64 a1_3,.int .i64 a1_4,.slice A1_5 l1_5.length c1_5] 34 (0,0)) (by (with_reducible repeat (first|refine blk_drewN ?_ _|refine blk_drew ?_|refine blk_alloc ?_ _));exact BK513.out) hb);have n2_:=Aside0.mk (below_step (by repeat (first|(with_reducible first|exact HB.out|apply below_alloc|apply pw_below_drewN|apply below_drew1|refine below_set ?_ GE513.out)|exact HB.out)) hb);clear HO523 BK513 HB;have HO523:=n0_;have BK513:=n1_;have HB:=n2_;clear n0_ n1_ n2_;(try clear hb);(try clear hb2);(try clear hk);(try clear hi))|((with_reducible refine gate_dst (N:=35) rfl ?_);refine Kd.R_lit k39 _ 39 ?hg (N:=35) ?hd (xs:=([]:List (S39))) (inner:=[]) (ok:=fun _=>True) (okp:=fun _=>True) ?hr ?hp (fun _ hk=>hk) trivial (Below.refl _ _) (Nat.le_refl _) (by simp) ?_;(case hd=>rfl);(case hg=>rfl);(case hr=>first|(go_simp;done)|(go_simp;rfl));(case hp=>exact (Reps.none _ _));intro v533 w55 ho56 hb hg_ hnew_;clear hg_ hnew_;(first|rw [← Ny532.out] at ho56|(simp only [Int.reduceToNat] at ho56;rw [← Ny532.out] at ho56));have n0_:=Aside0.mk (Kd.R_elder' (by (with_reducible repeat (first|apply Kd.R_alloc|apply Kd.R_drewN|apply Kd.R_drew));exact HO523.out) (Kd.R_base ho56) hb);have n1_:=Aside0.mk (Kd.R_lower (Kd.R_new' ho56 (Kd.R_lt (by (with_reducible repeat (first|apply Kd.R_alloc|apply Kd.R_drewN|apply Kd.R_drew));exact HO523.out))) (below_size (by repeat (first|(with_reducible first|exact HB.out|apply below_alloc|apply pw_below_drewN|apply below_drew1|refine below_set ?_ GE513.out)|exact HB.out))));have n2_:=Aside0.mk (blk_below (g:=gb513) (o:=.cells #[.bool a1_0,.bool a1_1,.int .i64 a1_2,.int .i64 a1_3,.int .i64 a1_4,.slice A1_5 l1_5.length c1_5] 34 (0,0)) (by (with_reducible repeat (first|refine blk_drewN ?_ _|refine blk_drew ?_|refine blk_alloc ?_ _));exact BK513.out) hb);have n3_:=Aside0.mk (below_step (by repeat (first|(with_reducible first|exact HB.out|apply below_alloc|apply pw_below_drewN|apply below_drew1|refine below_set ?_ GE513.out)|exact HB.out)) hb);clear HO523 BK513 HB;have HO523:=n0_;have HO534:=n1_;have BK513:=n2_;have HB:=n3_;clear n0_ n1_ n2_ n3_;clear hb ho56))
     go_ret2
     exact ⟨_,by first|rfl|(simp [errW_none,errW_some] <;> rfl)|(simp [*,errW_none,errW_some] <;> rfl),by (with_reducible repeat (first|apply Kd.R_alloc|apply Kd.R_drewN|apply Kd.R_drew));exact Kd.R_mono HO534.out (fun _ hk=>trivial),by repeat (first|(with_reducible first|exact HB.out|apply below_alloc|apply pw_below_drewN|apply below_drew1|refine below_set ?_ GE513.out)|exact HB.out)⟩
  ·rw [if_neg c10] at H
   exact absurd H (by simp)
end Go.Proofs.Ytkhmopmfbocokaa.T
namespace Go.Proofs.Ytkhmopmfbocokaa.T
open Go.RowKit Go.Proofs.YtkhmopmfbocokaaW.PrintWords Go.Proofs.YtkhmopmfbocokaaW.PrintLast Go.Proofs.YtkhmopmfbocokaaW.PrintMore
attribute [local go_sem] max2_int max_two
set_option linter.unusedVariables false
set_option linter.unusedSimpArgs false
def spec_ProducersRun.l0:Nat→List (S34)→List (S39)→List Int→Int→Option ((List (S39)) × List Int)
 | 0,_,_,_,_=>none
 | k+1,x0,x4,x5,x6=>if x6 < (x0.length:Int) then (if 0 ≤ x6 then ((spec_ProducersPut.f k x4 ((rd_T34 x0 x6).f0) ((rd_T34 x0 x6).f1) ((rd_T34 x0 x6).f2) ((rd_T34 x0 x6).f3) ((rd_T34 x0 x6).f4) ((rd_T34 x0 x6).f5)).bind fun bt804=>(if bt804.2=5 then (if x5.length < 17592186044416 then (spec_ProducersRun.l0 k x0 x4 (x5 ++ [bt804.2]) (wrap64 (x6+1))) else (none)) else (if x5.length < 17592186044416 then (spec_ProducersRun.l0 k x0 bt804.1 (x5 ++ [bt804.2]) (wrap64 (x6+1))) else (none)))) else (none)) else (some (x4,x5))
def spec_ProducersRun.f (k:Nat) (l0:List (S34)):Option ((List (S39)) × List Int):=spec_ProducersRun.l0 k l0 (([]:List (S39))) (([]:List Int)) 0
set_option maxHeartbeats 8000000 in
set_option maxRecDepth 100000 in
theorem spec_ProducersRun.calls (k:Nat) (A0:Option Addr) (c0:Nat) (l0:List (S34)) (r1:List (S39)) (r2:List Int) (w:World) (hr0:Kd.C k34 w A0 l0.length l0) (hc0:l0.length ≤ c0) (h:spec_ProducersRun.f k l0=some (r1,r2)) :
  Calls Try.prog 37 #[.slice A0 l0.length c0] w fun e w'=>∃ v0_ v1_:Value,e = .returned (.tuple #[v0_,v1_])∧Kd.R k39 39 w' w.heap.size (fun _=>True) v0_ r1∧Kd.R (Kd.int .i64) 3 w' w.heap.size (fun _=>True) v1_ r2∧Below w.heap.size w w':=by
 have hu34:=Try.underlying34
 have HR0:=Aside0.mk hr0
 have HC0:=Aside0.mk hc0
 clear hr0 hc0
 have HB:=Aside0.mk (Below.refl w.heap.size w)
 have H:(spec_ProducersRun.l0 k l0 (([]:List (S39))) (([]:List Int)) 0)=some (r1,r2):=h
 clear h
 obtain ⟨y797,hy797⟩:∃ y_:List (S39),y_=(([]:List (S39))):=⟨_,rfl⟩
 replace H:(spec_ProducersRun.l0 k l0 y797 (([]:List Int)) 0)=some (r1,r2):=by first|(rw [hy797];with_reducible exact H)|(have H2_:=(Option.bind_some _ _).symm.trans H;rw [hy797];with_reducible exact H2_)|(have H2_:=(Option.bind_some _ _).symm.trans H;with_reducible exact H2_)|with_reducible exact H|(rw [hy797];exact H)|exact H
 have Ny797:=Aside0.mk hy797
 clear hy797
 obtain ⟨y800,hy800⟩:∃ y_:List Int,y_=(([]:List Int)):=⟨_,rfl⟩
 replace H:(spec_ProducersRun.l0 k l0 y797 y800 0)=some (r1,r2):=by first|(rw [hy800];with_reducible exact H)|(have H2_:=(Option.bind_some _ _).symm.trans H;rw [hy800];with_reducible exact H2_)|(have H2_:=(Option.bind_some _ _).symm.trans H;with_reducible exact H2_)|with_reducible exact H|(rw [hy800];exact H)|exact H
 have Ny800:=Aside0.mk hy800
 clear hy800
 have H':=Aside0.mk H
 clear H
 go_enter Try.func37,Try.ntmps37
 go_wp2_with (first|((with_reducible refine gate_dst (N:=9) rfl ?_);refine Kd.R_lit k39 _ 39 ?hg (N:=9) ?hd (xs:=([]:List (S39))) (inner:=[]) (ok:=fun _=>True) (okp:=fun _=>True) ?hr ?hp (fun _ hk=>hk) trivial (Below.refl _ _) (Nat.le_refl _) (by simp) ?_;(case hd=>rfl);(case hg=>rfl);(case hr=>first|(go_simp;done)|(go_simp;rfl));(case hp=>exact (Reps.none _ _));intro v798 w2 ho3 hb hg_ hnew_;clear hg_ hnew_;(first|rw [← Ny797.out] at ho3|(simp only [Int.reduceToNat] at ho3;rw [← Ny797.out] at ho3));have n0_:=Aside0.mk (Kd.R_lower ho3 (below_size (by repeat (first|(with_reducible first|exact HB.out|apply below_alloc|apply pw_below_drewN|apply below_drew1)|exact HB.out))));have n1_:=Aside0.mk (below_step (by repeat (first|(with_reducible first|exact HB.out|apply below_alloc|apply pw_below_drewN|apply below_drew1)|exact HB.out)) hb);clear HB;have HO799:=n0_;have HB:=n1_;clear n0_ n1_;clear hb ho3)|((with_reducible refine gate_dst (N:=10) rfl ?_);refine Kd.R_lit (Kd.int .i64) _ 3 ?hg (N:=10) ?hd (xs:=([]:List Int)) (inner:=[]) (ok:=fun _=>True) (okp:=fun _=>True) ?hr ?hp (fun _ hk=>hk) trivial (Below.refl _ _) (Nat.le_refl _) (by simp) ?_;(case hd=>rfl);(case hg=>rfl);(case hr=>first|(go_simp;done)|(go_simp;rfl));(case hp=>exact (Reps.none _ _));intro v801 w4 ho5 hb hg_ hnew_;clear hg_ hnew_;(first|rw [← Ny800.out] at ho5|(simp only [Int.reduceToNat] at ho5;rw [← Ny800.out] at ho5));have n0_:=Aside0.mk (Kd.R_below (by (with_reducible repeat (first|apply Kd.R_alloc|apply Kd.R_drewN|apply Kd.R_drew));exact HO799.out) hb);have n1_:=Aside0.mk (Kd.R_lower ho5 (below_size (by repeat (first|(with_reducible first|exact HB.out|apply below_alloc|apply pw_below_drewN|apply below_drew1)|exact HB.out))));have n2_:=Aside0.mk (below_step (by repeat (first|(with_reducible first|exact HB.out|apply below_alloc|apply pw_below_drewN|apply below_drew1)|exact HB.out)) hb);clear HO799 HB;have HO799:=n0_;have HO802:=n1_;have HB:=n2_;clear n0_ n1_ n2_;clear hb ho5))
 go_loopg [4,5,6] k (fun kq v4 v5 v6 w'=>∃ (x4_1:List (S39)) (x5_1:List Int) (x6_1:Int),v6 = .int .i64 x6_1∧Aside0 (spec_ProducersRun.l0 kq l0 x4_1 x5_1 x6_1=some (r1,r2))∧Aside0 (kq ≤ k)∧Aside0 (Kd.R k39 39 w' w.heap.size (fun _=>True) v4 x4_1)∧Aside0 (Kd.R (Kd.int .i64) 3 w' w.heap.size (fun _=>True) v5 x5_1)∧Aside0 (Below w.heap.size w w'))
 case atStart=>exact ⟨(y797),(y800),(0),(by first|rfl|(simp;done)|(simp [*];done)),H',⟨Nat.le_refl _⟩,⟨by (with_reducible repeat (first|apply Kd.R_alloc|apply Kd.R_drewN|apply Kd.R_drew));exact HO799.out⟩,⟨by (with_reducible repeat (first|apply Kd.R_alloc|apply Kd.R_drewN|apply Kd.R_drew));exact HO802.out⟩,⟨by repeat (first|(with_reducible first|exact HB.out|apply below_alloc|apply pw_below_drewN|apply below_drew1)|exact HB.out)⟩⟩
 case round=>
  clear H'
  try clear p2
  try clear c3
  obtain ⟨x4_1,x5_1,x6_1,rfl,HA,HK1,HO_4,HO_5,HB⟩:=hrel
  cases gk with
  | zero=>exact absurd HA.out (by simp [spec_ProducersRun.l0])
  | succ k1=>
   have H:=HA.out
   clear HA
   simp only [spec_ProducersRun.l0] at H
   by_cases c6:x6_1 < (l0.length:Int)
   ·rw [if_pos c6] at H
    have c6b0:decide (x6_1 < (l0.length:Int))=true:=decide_eq_true c6
    clear c6
    by_cases c7 : 0 ≤ x6_1
    ·rw [if_pos c7] at H
     have c7b0:decide (0 ≤ x6_1)=true:=decide_eq_true c7
     clear c7
     replace H:=Option.bind_eq_some_iff.mp H
     obtain ⟨⟨t804,t807⟩,A80,H⟩:=H
     replace H:(if t807=5 then (if x5_1.length < 17592186044416 then (spec_ProducersRun.l0 k1 l0 x4_1 (x5_1 ++ [t807]) (wrap64 (x6_1+1))) else (none)) else (if x5_1.length < 17592186044416 then (spec_ProducersRun.l0 k1 l0 t804 (x5_1 ++ [t807]) (wrap64 (x6_1+1))) else (none)))=some (r1,r2):=H
     have A8:=Aside0.mk A80
     clear A80
     by_cases c9:t807=5
     ·rw [if_pos c9] at H
      have c9b0:(t807 == 5)=true:=beq_iff_eq.mpr c9
      have c9b1:(t807 != 5)=false:=bne_eq_false_iff_eq.mpr c9
      clear c9
      by_cases c10:x5_1.length < 17592186044416
      ·rw [if_pos c10] at H
       have LMc10:=Aside0.mk c10
       clear c10
       obtain ⟨y808,hy808⟩:∃ y_:List Int,y_=(x5_1 ++ [t807]):=⟨_,rfl⟩
       replace H:(spec_ProducersRun.l0 k1 l0 x4_1 y808 (wrap64 (x6_1+1)))=some (r1,r2):=by first|(rw [hy808];with_reducible exact H)|(have H2_:=(Option.bind_some _ _).symm.trans H;rw [hy808];with_reducible exact H2_)|(have H2_:=(Option.bind_some _ _).symm.trans H;with_reducible exact H2_)|with_reducible exact H|(rw [hy808];exact H)|exact H
       have Ny808:=Aside0.mk hy808
       clear hy808
       have H':=Aside0.mk H
       clear H
       have p803 : 0 ≤ (x6_1:Int):=of_decide_eq_true (by first|(with_reducible assumption)|assumption)
       have q803:x6_1 < (l0.length:Int):=of_decide_eq_true (by first|(with_reducible assumption)|assumption)
       obtain ⟨ad803,A803_5,c803_5,e803,hx803_0,hx803_1,hx803_2,hx803_3,hx803_4,hx803_5,hl803_5,hi803_5⟩:=at_T34 HR0.out x6_1 p803 q803
       cases e803
       replace hx803_0:=(HB.out.cell (World.block_lt_of_cell? w _ hx803_0)).trans hx803_0
       replace hx803_1:=(HB.out.cell (World.block_lt_of_cell? w _ hx803_1)).trans hx803_1
       replace hx803_2:=(HB.out.cell (World.block_lt_of_cell? w _ hx803_2)).trans hx803_2
       replace hx803_3:=(HB.out.cell (World.block_lt_of_cell? w _ hx803_3)).trans hx803_3
       replace hx803_4:=(HB.out.cell (World.block_lt_of_cell? w _ hx803_4)).trans hx803_4
       replace hx803_5:=(HB.out.cell (World.block_lt_of_cell? w _ hx803_5)).trans hx803_5
       have HR803_5:=Aside0.mk hi803_5
       have HC803_5:=Aside0.mk hl803_5
       clear hi803_5 hl803_5
       replace p803:=eq_true p803
       replace q803:=eq_true q803
       obtain ⟨Ao11,co11,eo11⟩:=Kd.R_slice HO_4.out
       subst eo11
       go_wp2_with (first|((with_reducible refine gate_callee (f:=30) rfl ?_);refine goesL_ (some 23) rfl rfl Try.func30 (by kernel_rfl) rfl #[.slice Ao11 x4_1.length co11,.agg #[.bool ((rd_T34 l0 x6_1).f0),.bool ((rd_T34 l0 x6_1).f1),.int .i64 ((rd_T34 l0 x6_1).f2),.int .i64 ((rd_T34 l0 x6_1).f3),.int .i64 ((rd_T34 l0 x6_1).f4),.slice A803_5 ((rd_T34 l0 x6_1).f5).length c803_5]] rfl (by (try simp only [map_toArray,map_cons,map_nil]);first|done|rfl|(simp only [length_drop,length_take];rfl)) ?_;(with_reducible refine (spec_ProducersPut.calls k1 _ _ x4_1 ((rd_T34 l0 x6_1).f0) ((rd_T34 l0 x6_1).f1) ((rd_T34 l0 x6_1).f2) ((rd_T34 l0 x6_1).f3) ((rd_T34 l0 x6_1).f4) _ _ ((rd_T34 l0 x6_1).f5) t804 t807 _ ?side1 ?side2 ?side3 ?side4 A8.out).mono ?_);(case side1=>repeat (first|exact (Kd.R_reads' HO_4.out).2.2|(with_reducible refine Kd.C_alloc ?_ _)|(with_reducible refine Kd.C_drewN ?_ _)|(with_reducible refine Kd.C_drew ?_)));(case side2=>exact (Kd.R_reads' HO_4.out).2.1);(case side3=>repeat (first|exact (Kd.C_below HR803_5.out HB.out)|(with_reducible refine Kd.C_alloc ?_ _)|(with_reducible refine Kd.C_drewN ?_ _)|(with_reducible refine Kd.C_drew ?_)));(case side4=>exact HC803_5.out);rintro e w12 ⟨v805,rfl,ho0,hb⟩;refine ⟨_,rfl,?_⟩;have n0_:=Aside0.mk (Kd.R_elder' (by (with_reducible repeat (first|apply Kd.R_alloc|apply Kd.R_drewN|apply Kd.R_drew));exact HO_4.out) (Kd.R_base ho0) hb);have n1_:=Aside0.mk (Kd.R_below (by (with_reducible repeat (first|apply Kd.R_alloc|apply Kd.R_drewN|apply Kd.R_drew));exact HO_5.out) hb);have n2_:=Aside0.mk (Kd.R_lower (Kd.R_new' ho0 (Kd.R_lt (by (with_reducible repeat (first|apply Kd.R_alloc|apply Kd.R_drewN|apply Kd.R_drew));exact HO_4.out))) (below_size (by repeat (first|(with_reducible first|exact HB.out|apply below_alloc|apply pw_below_drewN|apply below_drew1)|exact HB.out))));have n3_:=Aside0.mk (below_step (by repeat (first|(with_reducible first|exact HB.out|apply below_alloc|apply pw_below_drewN|apply below_drew1)|exact HB.out)) hb);clear HO_4 HO_5 HB;have HO_4:=n0_;have HO_5:=n1_;have HO806:=n2_;have HB:=n3_;clear n0_ n1_ n2_ n3_;(try clear hb);(try clear hb2);(try clear hk);(try clear hi);(try clear ho0))|((with_reducible refine gate_builtin (b:=.append) (xs:=#[.tmp 29,.tmp 31]) rfl ?_);at_builtin;refine Kd.R_append (Kd.int .i64) (w0:=w) w.heap.size rfl (.tmp 29) (.tmp 31) 53 3 (.int .i64 0) 8 rfl Try.underlying53 info3 rfl (by decide) (by omega) u5 x5_1 t807 [.int .i64 t807] (fun _=>True) (fun _=>False) rfl rfl ?aP (fun _ hk=>hk.elim) ?aF ?aO ?aB ?aS ?aL ?_;(case aP=>exact rfl);(case aB=>exact (by repeat (first|(with_reducible first|exact HB.out|apply below_alloc|apply pw_below_drewN|apply below_drew1)|exact HB.out)));(case aF=>exact (fun _ _=>trivial));(case aO=>exact (by (with_reducible repeat (first|apply Kd.R_alloc|apply Kd.R_drewN|apply Kd.R_drew));exact HO_5.out));(case aS=>exact (below_size (by repeat (first|(with_reducible first|exact HB.out|apply below_alloc|apply pw_below_drewN|apply below_drew1)|exact HB.out))));(case aL=>have:=LMc10.out;omega);intro v809 w13 ho hb hg hat;rw [← Ny808.out] at ho;have n0_:=Aside0.mk (Kd.R_over' (by (with_reducible repeat (first|apply Kd.R_alloc|apply Kd.R_drewN|apply Kd.R_drew));exact HO_4.out) (Kd.R_typed (by (with_reducible repeat (first|apply Kd.R_alloc|apply Kd.R_drewN|apply Kd.R_drew));exact HO_5.out)) (by decide) hg);have n1_:=Aside0.mk (Kd.R_over' (by (with_reducible repeat (first|apply Kd.R_alloc|apply Kd.R_drewN|apply Kd.R_drew));exact HO806.out) (Kd.R_typed (by (with_reducible repeat (first|apply Kd.R_alloc|apply Kd.R_drewN|apply Kd.R_drew));exact HO_5.out)) (by decide) hg);have n2_:=Aside0.mk (hb);have n3_:=Aside0.mk (ho);clear HO_4 HO806 HB HO_5;have HO_4:=n0_;have HO806:=n1_;have HB:=n2_;have HO810:=n3_;clear n0_ n1_ n2_ n3_;clear ho hb hg hat))
       go_roundg k1
       case measure=>have:=HK1.out;omega
       case rel=>exact ⟨(x4_1),(y808),(wrap64 (x6_1+1)),(by first|rfl|(simp;done)|(simp [*];done)),H',⟨by have:=HK1.out;omega⟩,⟨by (with_reducible repeat (first|apply Kd.R_alloc|apply Kd.R_drewN|apply Kd.R_drew));exact Kd.R_mono HO_4.out (fun _ hk=>trivial)⟩,⟨by (with_reducible repeat (first|apply Kd.R_alloc|apply Kd.R_drewN|apply Kd.R_drew));exact HO810.out⟩,⟨by repeat (first|(with_reducible first|exact HB.out|apply below_alloc|apply pw_below_drewN|apply below_drew1)|exact HB.out)⟩⟩
      ·rw [if_neg c10] at H
       exact absurd H (by simp)
     ·rw [if_neg c9] at H
      have c9b0:(t807 == 5)=false:=beq_eq_false_iff_ne.mpr c9
      have c9b1:(t807 != 5)=true:=bne_iff_ne.mpr c9
      by_cases c14:x5_1.length < 17592186044416
      ·rw [if_pos c14] at H
       have LMc14:=Aside0.mk c14
       clear c14
       obtain ⟨y811,hy811⟩:∃ y_:List Int,y_=(x5_1 ++ [t807]):=⟨_,rfl⟩
       replace H:(spec_ProducersRun.l0 k1 l0 t804 y811 (wrap64 (x6_1+1)))=some (r1,r2):=by first|(rw [hy811];with_reducible exact H)|(have H2_:=(Option.bind_some _ _).symm.trans H;rw [hy811];with_reducible exact H2_)|(have H2_:=(Option.bind_some _ _).symm.trans H;with_reducible exact H2_)|with_reducible exact H|(rw [hy811];exact H)|exact H
       have Ny811:=Aside0.mk hy811
       clear hy811
       have H':=Aside0.mk H
       clear H
       have p803 : 0 ≤ (x6_1:Int):=of_decide_eq_true (by first|(with_reducible assumption)|assumption)
       have q803:x6_1 < (l0.length:Int):=of_decide_eq_true (by first|(with_reducible assumption)|assumption)
       obtain ⟨ad803,A803_5,c803_5,e803,hx803_0,hx803_1,hx803_2,hx803_3,hx803_4,hx803_5,hl803_5,hi803_5⟩:=at_T34 HR0.out x6_1 p803 q803
       cases e803
       replace hx803_0:=(HB.out.cell (World.block_lt_of_cell? w _ hx803_0)).trans hx803_0
       replace hx803_1:=(HB.out.cell (World.block_lt_of_cell? w _ hx803_1)).trans hx803_1
       replace hx803_2:=(HB.out.cell (World.block_lt_of_cell? w _ hx803_2)).trans hx803_2
       replace hx803_3:=(HB.out.cell (World.block_lt_of_cell? w _ hx803_3)).trans hx803_3
       replace hx803_4:=(HB.out.cell (World.block_lt_of_cell? w _ hx803_4)).trans hx803_4
       replace hx803_5:=(HB.out.cell (World.block_lt_of_cell? w _ hx803_5)).trans hx803_5
       have HR803_5:=Aside0.mk hi803_5
       have HC803_5:=Aside0.mk hl803_5
       clear hi803_5 hl803_5
       replace p803:=eq_true p803
       replace q803:=eq_true q803
       obtain ⟨Ao15,co15,eo15⟩:=Kd.R_slice HO_4.out
       subst eo15
       go_wp2_with (first|((with_reducible refine gate_callee (f:=30) rfl ?_);refine goesL_ (some 23) rfl rfl Try.func30 (by kernel_rfl) rfl #[.slice Ao15 x4_1.length co15,.agg #[.bool ((rd_T34 l0 x6_1).f0),.bool ((rd_T34 l0 x6_1).f1),.int .i64 ((rd_T34 l0 x6_1).f2),.int .i64 ((rd_T34 l0 x6_1).f3),.int .i64 ((rd_T34 l0 x6_1).f4),.slice A803_5 ((rd_T34 l0 x6_1).f5).length c803_5]] rfl (by (try simp only [map_toArray,map_cons,map_nil]);first|done|rfl|(simp only [length_drop,length_take];rfl)) ?_;(with_reducible refine (spec_ProducersPut.calls k1 _ _ x4_1 ((rd_T34 l0 x6_1).f0) ((rd_T34 l0 x6_1).f1) ((rd_T34 l0 x6_1).f2) ((rd_T34 l0 x6_1).f3) ((rd_T34 l0 x6_1).f4) _ _ ((rd_T34 l0 x6_1).f5) t804 t807 _ ?side1 ?side2 ?side3 ?side4 A8.out).mono ?_);(case side1=>repeat (first|exact (Kd.R_reads' HO_4.out).2.2|(with_reducible refine Kd.C_alloc ?_ _)|(with_reducible refine Kd.C_drewN ?_ _)|(with_reducible refine Kd.C_drew ?_)));(case side2=>exact (Kd.R_reads' HO_4.out).2.1);(case side3=>repeat (first|exact (Kd.C_below HR803_5.out HB.out)|(with_reducible refine Kd.C_alloc ?_ _)|(with_reducible refine Kd.C_drewN ?_ _)|(with_reducible refine Kd.C_drew ?_)));(case side4=>exact HC803_5.out);rintro e w16 ⟨v805,rfl,ho0,hb⟩;refine ⟨_,rfl,?_⟩;have n0_:=Aside0.mk (Kd.R_elder' (by (with_reducible repeat (first|apply Kd.R_alloc|apply Kd.R_drewN|apply Kd.R_drew));exact HO_4.out) (Kd.R_base ho0) hb);have n1_:=Aside0.mk (Kd.R_below (by (with_reducible repeat (first|apply Kd.R_alloc|apply Kd.R_drewN|apply Kd.R_drew));exact HO_5.out) hb);have n2_:=Aside0.mk (Kd.R_lower (Kd.R_new' ho0 (Kd.R_lt (by (with_reducible repeat (first|apply Kd.R_alloc|apply Kd.R_drewN|apply Kd.R_drew));exact HO_4.out))) (below_size (by repeat (first|(with_reducible first|exact HB.out|apply below_alloc|apply pw_below_drewN|apply below_drew1)|exact HB.out))));have n3_:=Aside0.mk (below_step (by repeat (first|(with_reducible first|exact HB.out|apply below_alloc|apply pw_below_drewN|apply below_drew1)|exact HB.out)) hb);clear HO_4 HO_5 HB;have HO_4:=n0_;have HO_5:=n1_;have HO806:=n2_;have HB:=n3_;clear n0_ n1_ n2_ n3_;(try clear hb);(try clear hb2);(try clear hk);(try clear hi);(try clear ho0))|((with_reducible refine gate_builtin (b:=.append) (xs:=#[.tmp 29,.tmp 31]) rfl ?_);at_builtin;refine Kd.R_append (Kd.int .i64) (w0:=w) w.heap.size rfl (.tmp 29) (.tmp 31) 53 3 (.int .i64 0) 8 rfl Try.underlying53 info3 rfl (by decide) (by omega) u5 x5_1 t807 [.int .i64 t807] (fun _=>True) (fun _=>False) rfl rfl ?aP (fun _ hk=>hk.elim) ?aF ?aO ?aB ?aS ?aL ?_;(case aP=>exact rfl);(case aB=>exact (by repeat (first|(with_reducible first|exact HB.out|apply below_alloc|apply pw_below_drewN|apply below_drew1)|exact HB.out)));(case aF=>exact (fun _ _=>trivial));(case aO=>exact (by (with_reducible repeat (first|apply Kd.R_alloc|apply Kd.R_drewN|apply Kd.R_drew));exact HO_5.out));(case aS=>exact (below_size (by repeat (first|(with_reducible first|exact HB.out|apply below_alloc|apply pw_below_drewN|apply below_drew1)|exact HB.out))));(case aL=>have:=LMc14.out;omega);intro v812 w17 ho hb hg hat;rw [← Ny811.out] at ho;have n0_:=Aside0.mk (Kd.R_over' (by (with_reducible repeat (first|apply Kd.R_alloc|apply Kd.R_drewN|apply Kd.R_drew));exact HO_4.out) (Kd.R_typed (by (with_reducible repeat (first|apply Kd.R_alloc|apply Kd.R_drewN|apply Kd.R_drew));exact HO_5.out)) (by decide) hg);have n1_:=Aside0.mk (Kd.R_over' (by (with_reducible repeat (first|apply Kd.R_alloc|apply Kd.R_drewN|apply Kd.R_drew));exact HO806.out) (Kd.R_typed (by (with_reducible repeat (first|apply Kd.R_alloc|apply Kd.R_drewN|apply Kd.R_drew));exact HO_5.out)) (by decide) hg);have n2_:=Aside0.mk (hb);have n3_:=Aside0.mk (ho);clear HO_4 HO806 HB HO_5;have HO_4:=n0_;have HO806:=n1_;have HB:=n2_;have HO813:=n3_;clear n0_ n1_ n2_ n3_;clear ho hb hg hat))
       go_roundg k1
       case measure=>have:=HK1.out;omega
       case rel=>exact ⟨(t804),(y811),(wrap64 (x6_1+1)),(by first|rfl|(simp;done)|(simp [*];done)),H',⟨by have:=HK1.out;omega⟩,⟨by (with_reducible repeat (first|apply Kd.R_alloc|apply Kd.R_drewN|apply Kd.R_drew));exact Kd.R_mono HO806.out (fun _ hk=>trivial)⟩,⟨by (with_reducible repeat (first|apply Kd.R_alloc|apply Kd.R_drewN|apply Kd.R_drew));exact HO813.out⟩,⟨by repeat (first|(with_reducible first|exact HB.out|apply below_alloc|apply pw_below_drewN|apply below_drew1)|exact HB.out)⟩⟩
      ·rw [if_neg c14] at H
       exact absurd H (by simp)
    ·rw [if_neg c7] at H
     exact absurd H (by simp)
   ·rw [if_neg c6] at H
    have c6b0:decide (x6_1 < (l0.length:Int))=false:=decide_eq_false c6
    clear c6
    simp only [Option.some.injEq,Prod.mk.injEq] at H
    obtain ⟨rfl,rfl⟩:=H
    go_wp2
    go_ret2
    exact ⟨_,_,by first|rfl|(simp [errW_none,errW_some] <;> rfl)|(simp [*,errW_none,errW_some] <;> rfl),by (with_reducible repeat (first|apply Kd.R_alloc|apply Kd.R_drewN|apply Kd.R_drew));exact HO_4.out,by (with_reducible repeat (first|apply Kd.R_alloc|apply Kd.R_drewN|apply Kd.R_drew));exact HO_5.out,by repeat (first|(with_reducible first|exact HB.out|apply below_alloc|apply pw_below_drewN|apply below_drew1)|exact HB.out)⟩
end Go.Proofs.Ytkhmopmfbocokaa.T
namespace Go.Proofs.Ytkhmopmfbocokaa.T
open Go.RowKit Go.Proofs.YtkhmopmfbocokaaW.PrintWords Go.Proofs.YtkhmopmfbocokaaW.PrintLast Go.Proofs.YtkhmopmfbocokaaW.PrintMore
attribute [local go_sem] max2_int max_two
set_option linter.unusedVariables false
set_option linter.unusedSimpArgs false
def laws_sameInts.l0:Nat→List Int→List Int→Int→Option (Bool)
 | 0,_,_,_=>none
 | k+1,x0,x1,x5=>if x5 < (x0.length:Int) then (if 0 ≤ x5 then (if x5 < (x1.length:Int) then (if (rd x0 x5)=(rd x1 x5) then (laws_sameInts.l0 k x0 x1 (wrap64 (x5+1))) else (some false)) else (none)) else (none)) else (some true)
def laws_sameInts.f (k:Nat) (l0:List Int) (l1:List Int):Option (Bool):=if (l0.length:Int)=(l1.length:Int) then (laws_sameInts.l0 k l0 l1 0) else (some false)
set_option maxHeartbeats 8000000 in
set_option maxRecDepth 100000 in
theorem laws_sameInts.calls (k:Nat) (A0:Option Addr) (c0:Nat) (l0:List Int) (A1:Option Addr) (c1:Nat) (l1:List Int) (r:Bool) (w:World) (hr0:Kd.C (Kd.int .i64) w A0 l0.length l0) (hc0:l0.length ≤ c0) (hr1:Kd.C (Kd.int .i64) w A1 l1.length l1) (hc1:l1.length ≤ c1) (h:laws_sameInts.f k l0 l1=some r) :
  Calls Try.prog 38 #[.slice A0 l0.length c0,.slice A1 l1.length c1] w fun e w'=>e = .returned (.bool r)∧Drawn0 w w':=by
 have HR0:=Aside0.mk hr0
 have HC0:=Aside0.mk hc0
 clear hr0 hc0
 have HR1:=Aside0.mk hr1
 have HC1:=Aside0.mk hc1
 clear hr1 hc1
 have H:(if (l0.length:Int)=(l1.length:Int) then (laws_sameInts.l0 k l0 l1 0) else (some false))=some r:=h
 clear h
 by_cases c3:(l0.length:Int)=(l1.length:Int)
 ·rw [if_pos c3] at H
  have c3b0:((l0.length:Int) == (l1.length:Int))=true:=beq_iff_eq.mpr c3
  have c3b1:((l0.length:Int) != (l1.length:Int))=false:=bne_eq_false_iff_eq.mpr c3
  have c3b2:(l0.length == l1.length)=true:=by first|simpa using c3|(simp at c3 ⊢;omega)
  clear c3
  have H':=Aside0.mk H
  clear H
  go_enter Try.func38,Try.ntmps38
  go_wp2
  repeat (go_quiet (fail);try go_wp2)
  go_loopg [5] k (fun kq v5 w'=>∃ (x5_1:Int),v5 = .int .i64 x5_1∧Aside0 (laws_sameInts.l0 kq l0 l1 x5_1=some r)∧Aside0 (kq ≤ k)∧Drawn0 w w')
  case atStart=>exact ⟨(0),(by first|rfl|(simp;done)|(simp [*];done)),H',⟨Nat.le_refl _⟩,by repeat (first|exact Drawn0.refl _|apply Drawn0.step)⟩
  case round=>
   clear H'
   try clear c1
   try clear p2
   try clear c3
   try clear c3b0
   try clear c3b1
   try clear c3b2
   obtain ⟨x5_1,rfl,HA,HK1,⟨m1,rfl⟩⟩:=hrel
   cases gk with
   | zero=>exact absurd HA.out (by simp [laws_sameInts.l0])
   | succ k1=>
    have H:=HA.out
    clear HA
    simp only [laws_sameInts.l0] at H
    by_cases c4:x5_1 < (l0.length:Int)
    ·rw [if_pos c4] at H
     have c4b0:decide (x5_1 < (l0.length:Int))=true:=decide_eq_true c4
     clear c4
     by_cases c5 : 0 ≤ x5_1
     ·rw [if_pos c5] at H
      have c5b0:decide (0 ≤ x5_1)=true:=decide_eq_true c5
      clear c5
      by_cases c6:x5_1 < (l1.length:Int)
      ·rw [if_pos c6] at H
       have c6b0:decide (x5_1 < (l1.length:Int))=true:=decide_eq_true c6
       clear c6
       by_cases c7:(rd l0 x5_1)=(rd l1 x5_1)
       ·rw [if_pos c7] at H
        have c7b0:((rd l0 x5_1) == (rd l1 x5_1))=true:=beq_iff_eq.mpr c7
        have c7b1:((rd l0 x5_1) != (rd l1 x5_1))=false:=bne_eq_false_iff_eq.mpr c7
        clear c7
        have H':=Aside0.mk H
        clear H
        have p814 : 0 ≤ (x5_1:Int):=of_decide_eq_true (by first|(with_reducible assumption)|assumption)
        have q814:x5_1 < (l0.length:Int):=of_decide_eq_true (by first|(with_reducible assumption)|assumption)
        obtain ⟨ad814,e814,hx814_0⟩:=Kd.at_int HR0.out x5_1 p814 q814
        cases e814
        replace p814:=eq_true p814
        replace q814:=eq_true q814
        have p815 : 0 ≤ (x5_1:Int):=of_decide_eq_true (by first|(with_reducible assumption)|assumption)
        have q815:x5_1 < (l1.length:Int):=of_decide_eq_true (by first|(with_reducible assumption)|assumption)
        obtain ⟨ad815,e815,hx815_0⟩:=Kd.at_int HR1.out x5_1 p815 q815
        cases e815
        replace p815:=eq_true p815
        replace q815:=eq_true q815
        go_wp2
        repeat (go_quiet (fail);try go_wp2)
        go_roundg k1
        case measure=>have:=HK1.out;omega
        case rel=>exact ⟨(wrap64 (x5_1+1)),(by first|rfl|(simp;done)|(simp [*];done)),H',⟨by have:=HK1.out;omega⟩,by repeat (first|exact Drawn0.refl _|apply Drawn0.step)⟩
       ·rw [if_neg c7] at H
        have c7b0:((rd l0 x5_1) == (rd l1 x5_1))=false:=beq_eq_false_iff_ne.mpr c7
        have c7b1:((rd l0 x5_1) != (rd l1 x5_1))=true:=bne_iff_ne.mpr c7
        obtain rfl:=Option.some.inj H
        have p814 : 0 ≤ (x5_1:Int):=of_decide_eq_true (by first|(with_reducible assumption)|assumption)
        have q814:x5_1 < (l0.length:Int):=of_decide_eq_true (by first|(with_reducible assumption)|assumption)
        obtain ⟨ad814,e814,hx814_0⟩:=Kd.at_int HR0.out x5_1 p814 q814
        cases e814
        replace p814:=eq_true p814
        replace q814:=eq_true q814
        have p815 : 0 ≤ (x5_1:Int):=of_decide_eq_true (by first|(with_reducible assumption)|assumption)
        have q815:x5_1 < (l1.length:Int):=of_decide_eq_true (by first|(with_reducible assumption)|assumption)
        obtain ⟨ad815,e815,hx815_0⟩:=Kd.at_int HR1.out x5_1 p815 q815
        cases e815
        replace p815:=eq_true p815
        replace q815:=eq_true q815
        go_wp2
        repeat (go_quiet (fail);try go_wp2)
        go_ret
        exact ⟨by first|rfl|(simp;done)|(simp [*];done),by repeat (first|exact Drawn0.refl _|apply Drawn0.step)⟩
      ·rw [if_neg c6] at H
       exact absurd H (by simp)
     ·rw [if_neg c5] at H
      exact absurd H (by simp)
    ·rw [if_neg c4] at H
     have c4b0:decide (x5_1 < (l0.length:Int))=false:=decide_eq_false c4
     clear c4
     obtain rfl:=Option.some.inj H
     go_wp2
     repeat (go_quiet (fail);try go_wp2)
     go_ret
     exact ⟨by first|rfl|(simp;done)|(simp [*];done),by repeat (first|exact Drawn0.refl _|apply Drawn0.step)⟩
 ·rw [if_neg c3] at H
  have c3b0:((l0.length:Int) == (l1.length:Int))=false:=beq_eq_false_iff_ne.mpr c3
  have c3b1:((l0.length:Int) != (l1.length:Int))=true:=bne_iff_ne.mpr c3
  have c3b2:(l0.length == l1.length)=false:=by first|simpa using c3|(simp at c3 ⊢;omega)
  obtain rfl:=Option.some.inj H
  go_enter Try.func38,Try.ntmps38
  go_wp2
  repeat (go_quiet (fail);try go_wp2)
  go_ret
  exact ⟨by first|rfl|(simp;done)|(simp [*];done),by repeat (first|exact Drawn0.refl _|apply Drawn0.step)⟩
end Go.Proofs.Ytkhmopmfbocokaa.T
namespace Go.Proofs.Ytkhmopmfbocokaa.T
open Go.RowKit Go.Proofs.YtkhmopmfbocokaaW.PrintWords Go.Proofs.YtkhmopmfbocokaaW.PrintLast Go.Proofs.YtkhmopmfbocokaaW.PrintMore
attribute [local go_sem] max2_int max_two
set_option linter.unusedVariables false
set_option linter.unusedSimpArgs false
mutual
def laws_FnRunTwice.j0:Nat→List (S34)→List (S39)→List Int→List (S39)→List Int→Bool→Option (Bool)
 | 0,_,_,_,_,_,_=>none
 | k+1,x3,x4,x5,x6,x7,x41=>if x41=true then ((laws_sameInts.f k x5 x7).bind fun t863=>(if t863=true then ((laws_sameProducers.f k x4 x6).bind fun t864=>(some t864)) else (some false))) else (laws_FnRunTwice.l0 k x3 x5 0)
def laws_FnRunTwice.l0:Nat→List (S34)→List Int→Int→Option (Bool)
 | 0,_,_,_=>none
 | k+1,x3,x5,x8=>if x8 < (x3.length:Int) then (if 0 ≤ x8 then (if x8 < (x5.length:Int) then (if (rd x5 x8)=0 then (if 0 < (x3.length:Int) then (if ((rd_T34 x3 x8).f3)=((rd_T34 x3 0).f3) then (laws_FnRunTwice.l0 k x3 x5 (wrap64 (x8+1))) else (some true)) else (none)) else (some true)) else (none)) else (none)) else ((some (([]:List (S34)):List (S34))).bind fun y868=>(if y868.length+x3.length < 2513169434916 then ((some (y868 ++ x3:List (S34))).bind fun y871=>(if y871.length+x3.length < 2513169434916 then ((impl_ProducersRun.f k (y871 ++ x3)).bind fun bt877=>(laws_FnRunTwice.l1 k x3 bt877.2 (x3.length:Int))) else (none))) else (none)))
def laws_FnRunTwice.l1:Nat→List (S34)→List Int→Int→Option (Bool)
 | 0,_,_,_=>none
 | k+1,x3,x10,x11=>if x11 < (x10.length:Int) then (if 0 ≤ x11 then (if (rd x10 x11)=1 then (laws_FnRunTwice.l1 k x3 x10 (wrap64 (x11+1))) else (some false)) else (none)) else (some ((x10.length:Int) == (wrap64 (2 * (x3.length:Int)))))
end
def laws_FnRunTwice.f (k:Nat) (l0:List Int):Option (Bool):=if (l0.length:Int) > 1048576 then (some true) else ((spec_DrawProducersRun.f k l0).bind fun t846=>((impl_ProducersRun.f k t846).bind fun bt849=>((spec_ProducersRun.f k t846).bind fun bt855=>((laws_sameInts.f k bt849.2 bt855.2).bind fun t861=>(if t861=true then ((laws_sameProducers.f k bt849.1 bt855.1).bind fun t862=>(if t862=true then (laws_FnRunTwice.j0 k t846 bt849.1 bt849.2 bt855.1 bt855.2 ((t846.length:Int) == 0)) else (laws_FnRunTwice.j0 k t846 bt849.1 bt849.2 bt855.1 bt855.2 true))) else (laws_FnRunTwice.j0 k t846 bt849.1 bt849.2 bt855.1 bt855.2 true))))))
set_option maxHeartbeats 8000000 in
set_option maxRecDepth 100000 in
theorem laws_FnRunTwice.calls (k:Nat) (A0:Option Addr) (c0:Nat) (l0:List Int) (r:Bool) (w:World) (hr0:Kd.C (Kd.int .u8) w A0 l0.length l0) (hc0:l0.length ≤ c0) (h:laws_FnRunTwice.f k l0=some r) :
  Calls Try.prog 15 #[.slice A0 l0.length c0] w fun e w'=>e = .returned (.bool r)∧Below w.heap.size w w':=by
 have HR0:=Aside0.mk hr0
 have HC0:=Aside0.mk hc0
 clear hr0 hc0
 have HB:=Aside0.mk (Below.refl w.heap.size w)
 have H:(if (l0.length:Int) > 1048576 then (some true) else ((spec_DrawProducersRun.f k l0).bind fun t846=>((impl_ProducersRun.f k t846).bind fun bt849=>((spec_ProducersRun.f k t846).bind fun bt855=>((laws_sameInts.f k bt849.2 bt855.2).bind fun t861=>(if t861=true then ((laws_sameProducers.f k bt849.1 bt855.1).bind fun t862=>(if t862=true then (laws_FnRunTwice.j0 k t846 bt849.1 bt849.2 bt855.1 bt855.2 ((t846.length:Int) == 0)) else (laws_FnRunTwice.j0 k t846 bt849.1 bt849.2 bt855.1 bt855.2 true))) else (laws_FnRunTwice.j0 k t846 bt849.1 bt849.2 bt855.1 bt855.2 true)))))))=some r:=h
 clear h
 by_cases c2:(l0.length:Int) > 1048576
 ·rw [if_pos c2] at H
  have c2b0:decide (1048576 < (l0.length:Int))=true:=decide_eq_true c2
  have c2b1:decide (1048576 < l0.length)=true:=decide_eq_true (by omega)
  clear c2
  obtain rfl:=Option.some.inj H
  go_enter Try.func15,Try.ntmps15
  go_wp2
  repeat (go_quiet (fail);try go_wp2)
  go_ret
  exact ⟨by first|rfl|(simp [errW_none,errW_some] <;> rfl)|(simp [*,errW_none,errW_some] <;> rfl),by repeat (first|(with_reducible first|exact HB.out|apply below_alloc|apply pw_below_drewN|apply below_drew1)|exact HB.out)⟩
 ·rw [if_neg c2] at H
  have c2b0:decide (1048576 < (l0.length:Int))=false:=decide_eq_false c2
  have c2b1:decide (1048576 < l0.length)=false:=decide_eq_false (by omega)
  clear c2
  replace H:=Option.bind_eq_some_iff.mp H
  obtain ⟨t846,A30,H⟩:=H
  replace H:((impl_ProducersRun.f k t846).bind fun bt849=>((spec_ProducersRun.f k t846).bind fun bt855=>((laws_sameInts.f k bt849.2 bt855.2).bind fun t861=>(if t861=true then ((laws_sameProducers.f k bt849.1 bt855.1).bind fun t862=>(if t862=true then (laws_FnRunTwice.j0 k t846 bt849.1 bt849.2 bt855.1 bt855.2 ((t846.length:Int) == 0)) else (laws_FnRunTwice.j0 k t846 bt849.1 bt849.2 bt855.1 bt855.2 true))) else (laws_FnRunTwice.j0 k t846 bt849.1 bt849.2 bt855.1 bt855.2 true)))))=some r:=H
  have A3:=Aside0.mk A30
  clear A30
  replace H:=Option.bind_eq_some_iff.mp H
  obtain ⟨⟨t849,t850⟩,A40,H⟩:=H
  replace H:((spec_ProducersRun.f k t846).bind fun bt855=>((laws_sameInts.f k t850 bt855.2).bind fun t861=>(if t861=true then ((laws_sameProducers.f k t849 bt855.1).bind fun t862=>(if t862=true then (laws_FnRunTwice.j0 k t846 t849 t850 bt855.1 bt855.2 ((t846.length:Int) == 0)) else (laws_FnRunTwice.j0 k t846 t849 t850 bt855.1 bt855.2 true))) else (laws_FnRunTwice.j0 k t846 t849 t850 bt855.1 bt855.2 true))))=some r:=H
  have A4:=Aside0.mk A40
  clear A40
  replace H:=Option.bind_eq_some_iff.mp H
  obtain ⟨⟨t855,t856⟩,A50,H⟩:=H
  replace H:((laws_sameInts.f k t850 t856).bind fun t861=>(if t861=true then ((laws_sameProducers.f k t849 t855).bind fun t862=>(if t862=true then (laws_FnRunTwice.j0 k t846 t849 t850 t855 t856 ((t846.length:Int) == 0)) else (laws_FnRunTwice.j0 k t846 t849 t850 t855 t856 true))) else (laws_FnRunTwice.j0 k t846 t849 t850 t855 t856 true)))=some r:=H
  have A5:=Aside0.mk A50
  clear A50
  have HC6:=Aside0.mk H
  clear H
  go_enter Try.func15,Try.ntmps15
  go_upto_region 6 with (first|(go_at_call 35;(with_reducible refine (spec_DrawProducersRun.calls k _ _ l0 t846 _ ?side1 ?side2 A3.out).mono ?_);(case side1=>repeat (first|exact HR0.out|(with_reducible refine Kd.C_alloc ?_ _)|(with_reducible refine Kd.C_drewN ?_ _)|(with_reducible refine Kd.C_drew ?_)));(case side2=>exact HC0.out);rintro e w7 ⟨v847,rfl,ho0,hb⟩;have n0_:=Aside0.mk (Kd.N_lower (Kd.N_mono (ok':=fun k_=>True) ho0 (fun k_ hk_=>trivial)) (below_size (by repeat (first|(with_reducible first|exact HB.out|apply below_alloc|apply pw_below_drewN|apply below_drew1)|exact HB.out))));have n1_:=Aside0.mk (below_step (by repeat (first|(with_reducible first|exact HB.out|apply below_alloc|apply pw_below_drewN|apply below_drew1)|exact HB.out)) hb);clear HB;have HO848:=n0_;have HB:=n1_;clear n0_ n1_;(try clear hb);(try clear hb2);(try clear hk);(try clear hi);(try clear ho0);obtain ⟨Ao8,co8,eo8⟩:=Kd.N_slice HO848.out;subst eo8)|(go_at_call 36;(with_reducible refine (impl_ProducersRun.calls k _ _ t846 t849 t850 _ ?side1 ?side2 A4.out).mono ?_);(case side1=>repeat (first|exact (Kd.N_reads' HO848.out).2.2|(with_reducible refine Kd.C_alloc ?_ _)|(with_reducible refine Kd.C_drewN ?_ _)|(with_reducible refine Kd.C_drew ?_)));(case side2=>exact (Kd.N_reads' HO848.out).2.1);rintro e w9 ⟨v851,v853,rfl,ho0,ho1,hb⟩;have n0_:=Aside0.mk (Kd.N_mono (Kd.N_told (Kd.N_told (Kd.N_old (by (with_reducible repeat (first|apply Kd.N_alloc|apply Kd.N_drewN|apply Kd.N_drew));exact HO848.out) hb) (Kd.R_base ho0)) (Kd.R_base ho1)) (fun _ h_=>h_.1));have n1_:=Aside0.mk (Kd.R_lower ho0 (below_size (by repeat (first|(with_reducible first|exact HB.out|apply below_alloc|apply pw_below_drewN|apply below_drew1)|exact HB.out))));have n2_:=Aside0.mk (Kd.R_lower ho1 (below_size (by repeat (first|(with_reducible first|exact HB.out|apply below_alloc|apply pw_below_drewN|apply below_drew1)|exact HB.out))));have n3_:=Aside0.mk (below_step (by repeat (first|(with_reducible first|exact HB.out|apply below_alloc|apply pw_below_drewN|apply below_drew1)|exact HB.out)) hb);clear HO848 HB;have HO848:=n0_;have HO852:=n1_;have HO854:=n2_;have HB:=n3_;clear n0_ n1_ n2_ n3_;(try clear hb);(try clear hb2);(try clear hk);(try clear hi);(try clear ho0);(try clear ho1))|(go_at_call 37;(with_reducible refine (spec_ProducersRun.calls k _ _ t846 t855 t856 _ ?side1 ?side2 A5.out).mono ?_);(case side1=>repeat (first|exact (Kd.N_reads' HO848.out).2.2|(with_reducible refine Kd.C_alloc ?_ _)|(with_reducible refine Kd.C_drewN ?_ _)|(with_reducible refine Kd.C_drew ?_)));(case side2=>exact (Kd.N_reads' HO848.out).2.1);rintro e w10 ⟨v857,v859,rfl,ho0,ho1,hb⟩;have n0_:=Aside0.mk (Kd.N_mono (Kd.N_told (Kd.N_told (Kd.N_old (by (with_reducible repeat (first|apply Kd.N_alloc|apply Kd.N_drewN|apply Kd.N_drew));exact HO848.out) hb) (Kd.R_base ho0)) (Kd.R_base ho1)) (fun _ h_=>h_.1));have n1_:=Aside0.mk (Kd.R_elder' (by (with_reducible repeat (first|apply Kd.R_alloc|apply Kd.R_drewN|apply Kd.R_drew));exact HO852.out) (Kd.R_base ho0) hb);have n2_:=Aside0.mk (Kd.R_elder' (by (with_reducible repeat (first|apply Kd.R_alloc|apply Kd.R_drewN|apply Kd.R_drew));exact HO854.out) (Kd.R_base ho1) hb);have n3_:=Aside0.mk (Kd.R_lower (Kd.R_new' ho0 (Kd.R_lt (by (with_reducible repeat (first|apply Kd.R_alloc|apply Kd.R_drewN|apply Kd.R_drew));exact HO852.out))) (below_size (by repeat (first|(with_reducible first|exact HB.out|apply below_alloc|apply pw_below_drewN|apply below_drew1)|exact HB.out))));have n4_:=Aside0.mk (Kd.R_lower (Kd.R_new' ho1 (Kd.R_lt (by (with_reducible repeat (first|apply Kd.R_alloc|apply Kd.R_drewN|apply Kd.R_drew));exact HO854.out))) (below_size (by repeat (first|(with_reducible first|exact HB.out|apply below_alloc|apply pw_below_drewN|apply below_drew1)|exact HB.out))));have n5_:=Aside0.mk (below_step (by repeat (first|(with_reducible first|exact HB.out|apply below_alloc|apply pw_below_drewN|apply below_drew1)|exact HB.out)) hb);clear HO848 HO852 HO854 HB;have HO848:=n0_;have HO852:=n1_;have HO854:=n2_;have HO858:=n3_;have HO860:=n4_;have HB:=n5_;clear n0_ n1_ n2_ n3_ n4_ n5_;(try clear hb);(try clear hb2);(try clear hk);(try clear hi);(try clear ho0);(try clear ho1)))
  repeat (go_quiet (first|(go_at_call 35;(with_reducible refine (spec_DrawProducersRun.calls k _ _ l0 t846 _ ?side1 ?side2 A3.out).mono ?_);(case side1=>repeat (first|exact HR0.out|(with_reducible refine Kd.C_alloc ?_ _)|(with_reducible refine Kd.C_drewN ?_ _)|(with_reducible refine Kd.C_drew ?_)));(case side2=>exact HC0.out);rintro e w7 ⟨v847,rfl,ho0,hb⟩;have n0_:=Aside0.mk (Kd.N_lower (Kd.N_mono (ok':=fun k_=>True) ho0 (fun k_ hk_=>trivial)) (below_size (by repeat (first|(with_reducible first|exact HB.out|apply below_alloc|apply pw_below_drewN|apply below_drew1)|exact HB.out))));have n1_:=Aside0.mk (below_step (by repeat (first|(with_reducible first|exact HB.out|apply below_alloc|apply pw_below_drewN|apply below_drew1)|exact HB.out)) hb);clear HB;have HO848:=n0_;have HB:=n1_;clear n0_ n1_;(try clear hb);(try clear hb2);(try clear hk);(try clear hi);(try clear ho0);obtain ⟨Ao8,co8,eo8⟩:=Kd.N_slice HO848.out;subst eo8)|(go_at_call 36;(with_reducible refine (impl_ProducersRun.calls k _ _ t846 t849 t850 _ ?side1 ?side2 A4.out).mono ?_);(case side1=>repeat (first|exact (Kd.N_reads' HO848.out).2.2|(with_reducible refine Kd.C_alloc ?_ _)|(with_reducible refine Kd.C_drewN ?_ _)|(with_reducible refine Kd.C_drew ?_)));(case side2=>exact (Kd.N_reads' HO848.out).2.1);rintro e w9 ⟨v851,v853,rfl,ho0,ho1,hb⟩;have n0_:=Aside0.mk (Kd.N_mono (Kd.N_told (Kd.N_told (Kd.N_old (by (with_reducible repeat (first|apply Kd.N_alloc|apply Kd.N_drewN|apply Kd.N_drew));exact HO848.out) hb) (Kd.R_base ho0)) (Kd.R_base ho1)) (fun _ h_=>h_.1));have n1_:=Aside0.mk (Kd.R_lower ho0 (below_size (by repeat (first|(with_reducible first|exact HB.out|apply below_alloc|apply pw_below_drewN|apply below_drew1)|exact HB.out))));have n2_:=Aside0.mk (Kd.R_lower ho1 (below_size (by repeat (first|(with_reducible first|exact HB.out|apply below_alloc|apply pw_below_drewN|apply below_drew1)|exact HB.out))));have n3_:=Aside0.mk (below_step (by repeat (first|(with_reducible first|exact HB.out|apply below_alloc|apply pw_below_drewN|apply below_drew1)|exact HB.out)) hb);clear HO848 HB;have HO848:=n0_;have HO852:=n1_;have HO854:=n2_;have HB:=n3_;clear n0_ n1_ n2_ n3_;(try clear hb);(try clear hb2);(try clear hk);(try clear hi);(try clear ho0);(try clear ho1))|(go_at_call 37;(with_reducible refine (spec_ProducersRun.calls k _ _ t846 t855 t856 _ ?side1 ?side2 A5.out).mono ?_);(case side1=>repeat (first|exact (Kd.N_reads' HO848.out).2.2|(with_reducible refine Kd.C_alloc ?_ _)|(with_reducible refine Kd.C_drewN ?_ _)|(with_reducible refine Kd.C_drew ?_)));(case side2=>exact (Kd.N_reads' HO848.out).2.1);rintro e w10 ⟨v857,v859,rfl,ho0,ho1,hb⟩;have n0_:=Aside0.mk (Kd.N_mono (Kd.N_told (Kd.N_told (Kd.N_old (by (with_reducible repeat (first|apply Kd.N_alloc|apply Kd.N_drewN|apply Kd.N_drew));exact HO848.out) hb) (Kd.R_base ho0)) (Kd.R_base ho1)) (fun _ h_=>h_.1));have n1_:=Aside0.mk (Kd.R_elder' (by (with_reducible repeat (first|apply Kd.R_alloc|apply Kd.R_drewN|apply Kd.R_drew));exact HO852.out) (Kd.R_base ho0) hb);have n2_:=Aside0.mk (Kd.R_elder' (by (with_reducible repeat (first|apply Kd.R_alloc|apply Kd.R_drewN|apply Kd.R_drew));exact HO854.out) (Kd.R_base ho1) hb);have n3_:=Aside0.mk (Kd.R_lower (Kd.R_new' ho0 (Kd.R_lt (by (with_reducible repeat (first|apply Kd.R_alloc|apply Kd.R_drewN|apply Kd.R_drew));exact HO852.out))) (below_size (by repeat (first|(with_reducible first|exact HB.out|apply below_alloc|apply pw_below_drewN|apply below_drew1)|exact HB.out))));have n4_:=Aside0.mk (Kd.R_lower (Kd.R_new' ho1 (Kd.R_lt (by (with_reducible repeat (first|apply Kd.R_alloc|apply Kd.R_drewN|apply Kd.R_drew));exact HO854.out))) (below_size (by repeat (first|(with_reducible first|exact HB.out|apply below_alloc|apply pw_below_drewN|apply below_drew1)|exact HB.out))));have n5_:=Aside0.mk (below_step (by repeat (first|(with_reducible first|exact HB.out|apply below_alloc|apply pw_below_drewN|apply below_drew1)|exact HB.out)) hb);clear HO848 HO852 HO854 HB;have HO848:=n0_;have HO852:=n1_;have HO854:=n2_;have HO858:=n3_;have HO860:=n4_;have HB:=n5_;clear n0_ n1_ n2_ n3_ n4_ n5_;(try clear hb);(try clear hb2);(try clear hk);(try clear hi);(try clear ho0);(try clear ho1)));go_upto_region 6 with (first|(go_at_call 35;(with_reducible refine (spec_DrawProducersRun.calls k _ _ l0 t846 _ ?side1 ?side2 A3.out).mono ?_);(case side1=>repeat (first|exact HR0.out|(with_reducible refine Kd.C_alloc ?_ _)|(with_reducible refine Kd.C_drewN ?_ _)|(with_reducible refine Kd.C_drew ?_)));(case side2=>exact HC0.out);rintro e w7 ⟨v847,rfl,ho0,hb⟩;have n0_:=Aside0.mk (Kd.N_lower (Kd.N_mono (ok':=fun k_=>True) ho0 (fun k_ hk_=>trivial)) (below_size (by repeat (first|(with_reducible first|exact HB.out|apply below_alloc|apply pw_below_drewN|apply below_drew1)|exact HB.out))));have n1_:=Aside0.mk (below_step (by repeat (first|(with_reducible first|exact HB.out|apply below_alloc|apply pw_below_drewN|apply below_drew1)|exact HB.out)) hb);clear HB;have HO848:=n0_;have HB:=n1_;clear n0_ n1_;(try clear hb);(try clear hb2);(try clear hk);(try clear hi);(try clear ho0);obtain ⟨Ao8,co8,eo8⟩:=Kd.N_slice HO848.out;subst eo8)|(go_at_call 36;(with_reducible refine (impl_ProducersRun.calls k _ _ t846 t849 t850 _ ?side1 ?side2 A4.out).mono ?_);(case side1=>repeat (first|exact (Kd.N_reads' HO848.out).2.2|(with_reducible refine Kd.C_alloc ?_ _)|(with_reducible refine Kd.C_drewN ?_ _)|(with_reducible refine Kd.C_drew ?_)));(case side2=>exact (Kd.N_reads' HO848.out).2.1);rintro e w9 ⟨v851,v853,rfl,ho0,ho1,hb⟩;have n0_:=Aside0.mk (Kd.N_mono (Kd.N_told (Kd.N_told (Kd.N_old (by (with_reducible repeat (first|apply Kd.N_alloc|apply Kd.N_drewN|apply Kd.N_drew));exact HO848.out) hb) (Kd.R_base ho0)) (Kd.R_base ho1)) (fun _ h_=>h_.1));have n1_:=Aside0.mk (Kd.R_lower ho0 (below_size (by repeat (first|(with_reducible first|exact HB.out|apply below_alloc|apply pw_below_drewN|apply below_drew1)|exact HB.out))));have n2_:=Aside0.mk (Kd.R_lower ho1 (below_size (by repeat (first|(with_reducible first|exact HB.out|apply below_alloc|apply pw_below_drewN|apply below_drew1)|exact HB.out))));have n3_:=Aside0.mk (below_step (by repeat (first|(with_reducible first|exact HB.out|apply below_alloc|apply pw_below_drewN|apply below_drew1)|exact HB.out)) hb);clear HO848 HB;have HO848:=n0_;have HO852:=n1_;have HO854:=n2_;have HB:=n3_;clear n0_ n1_ n2_ n3_;(try clear hb);(try clear hb2);(try clear hk);(try clear hi);(try clear ho0);(try clear ho1))|(go_at_call 37;(with_reducible refine (spec_ProducersRun.calls k _ _ t846 t855 t856 _ ?side1 ?side2 A5.out).mono ?_);(case side1=>repeat (first|exact (Kd.N_reads' HO848.out).2.2|(with_reducible refine Kd.C_alloc ?_ _)|(with_reducible refine Kd.C_drewN ?_ _)|(with_reducible refine Kd.C_drew ?_)));(case side2=>exact (Kd.N_reads' HO848.out).2.1);rintro e w10 ⟨v857,v859,rfl,ho0,ho1,hb⟩;have n0_:=Aside0.mk (Kd.N_mono (Kd.N_told (Kd.N_told (Kd.N_old (by (with_reducible repeat (first|apply Kd.N_alloc|apply Kd.N_drewN|apply Kd.N_drew));exact HO848.out) hb) (Kd.R_base ho0)) (Kd.R_base ho1)) (fun _ h_=>h_.1));have n1_:=Aside0.mk (Kd.R_elder' (by (with_reducible repeat (first|apply Kd.R_alloc|apply Kd.R_drewN|apply Kd.R_drew));exact HO852.out) (Kd.R_base ho0) hb);have n2_:=Aside0.mk (Kd.R_elder' (by (with_reducible repeat (first|apply Kd.R_alloc|apply Kd.R_drewN|apply Kd.R_drew));exact HO854.out) (Kd.R_base ho1) hb);have n3_:=Aside0.mk (Kd.R_lower (Kd.R_new' ho0 (Kd.R_lt (by (with_reducible repeat (first|apply Kd.R_alloc|apply Kd.R_drewN|apply Kd.R_drew));exact HO852.out))) (below_size (by repeat (first|(with_reducible first|exact HB.out|apply below_alloc|apply pw_below_drewN|apply below_drew1)|exact HB.out))));have n4_:=Aside0.mk (Kd.R_lower (Kd.R_new' ho1 (Kd.R_lt (by (with_reducible repeat (first|apply Kd.R_alloc|apply Kd.R_drewN|apply Kd.R_drew));exact HO854.out))) (below_size (by repeat (first|(with_reducible first|exact HB.out|apply below_alloc|apply pw_below_drewN|apply below_drew1)|exact HB.out))));have n5_:=Aside0.mk (below_step (by repeat (first|(with_reducible first|exact HB.out|apply below_alloc|apply pw_below_drewN|apply below_drew1)|exact HB.out)) hb);clear HO848 HO852 HO854 HB;have HO848:=n0_;have HO852:=n1_;have HO854:=n2_;have HO858:=n3_;have HO860:=n4_;have HB:=n5_;clear n0_ n1_ n2_ n3_ n4_ n5_;(try clear hb);(try clear hb2);(try clear hk);(try clear hi);(try clear ho0);(try clear ho1))))
  (try simp only [Act.put,setIfInBounds_toArray,set_cons_zero,set_cons_succ])
  go_cut [41] (fun v41 wc=>∃ (kq:Nat) (x41_5:Bool),v41 = .bool x41_5∧Aside0 (laws_FnRunTwice.j0 kq t846 t849 t850 t855 t856 x41_5=some r)∧Aside0 (kq ≤ k)∧Aside0 (Kd.N k34 34 wc w.heap.size (fun k_=>some k_ ≠ (v851:Value).ownBlock∧some k_ ≠ (v853:Value).ownBlock∧some k_ ≠ (v857:Value).ownBlock∧some k_ ≠ (v859:Value).ownBlock) (.slice Ao8 t846.length co8) t846)∧Aside0 (Kd.R k39 39 wc w.heap.size (fun k_=>some k_ ≠ (v857:Value).ownBlock) v851 t849)∧Aside0 (Kd.R (Kd.int .i64) 3 wc w.heap.size (fun k_=>some k_ ≠ (v859:Value).ownBlock) v853 t850)∧Aside0 (Kd.R k39 39 wc w.heap.size (fun k_=>some k_ ≠ (v851:Value).ownBlock) v857 t855)∧Aside0 (Kd.R (Kd.int .i64) 3 wc w.heap.size (fun k_=>some k_ ≠ (v853:Value).ownBlock) v859 t856)∧Aside0 (Below w.heap.size w wc))
  case first=>
   have H:=HC6.out
   clear HC6
   replace H:=Option.bind_eq_some_iff.mp H
   obtain ⟨t861,A110,H⟩:=H
   replace H:(if t861=true then ((laws_sameProducers.f k t849 t855).bind fun t862=>(if t862=true then (laws_FnRunTwice.j0 k t846 t849 t850 t855 t856 ((t846.length:Int) == 0)) else (laws_FnRunTwice.j0 k t846 t849 t850 t855 t856 true))) else (laws_FnRunTwice.j0 k t846 t849 t850 t855 t856 true))=some r:=H
   have A11:=Aside0.mk A110
   clear A110
   by_cases c12:t861=true
   ·subst c12
    have H1:((laws_sameProducers.f k t849 t855).bind fun t862=>(if t862=true then (laws_FnRunTwice.j0 k t846 t849 t850 t855 t856 ((t846.length:Int) == 0)) else (laws_FnRunTwice.j0 k t846 t849 t850 t855 t856 true)))=some r:=by rw [if_pos rfl] at H;exact H
    clear H
    have H:=H1
    clear H1
    replace H:=Option.bind_eq_some_iff.mp H
    obtain ⟨t862,A130,H⟩:=H
    replace H:(if t862=true then (laws_FnRunTwice.j0 k t846 t849 t850 t855 t856 ((t846.length:Int) == 0)) else (laws_FnRunTwice.j0 k t846 t849 t850 t855 t856 true))=some r:=H
    have A13:=Aside0.mk A130
    clear A130
    by_cases c14:t862=true
    ·subst c14
     have H1:(laws_FnRunTwice.j0 k t846 t849 t850 t855 t856 ((t846.length:Int) == 0))=some r:=by rw [if_pos rfl] at H;exact H
     clear H
     have H:=H1
     clear H1
     have H':=Aside0.mk H
     clear H
     obtain ⟨Ao15,co15,eo15⟩:=Kd.R_slice HO854.out
     subst eo15
     obtain ⟨Ao16,co16,eo16⟩:=Kd.R_slice HO860.out
     subst eo16
     go_wp2_with (first|(go_at_call 38;(with_reducible refine (laws_sameInts.calls k _ _ t850 _ _ t856 true _ ?side1 ?side2 ?side3 ?side4 A11.out).mono ?_);(case side1=>repeat (first|exact (Kd.R_reads' HO854.out).2.2|(with_reducible refine Kd.C_alloc ?_ _)|(with_reducible refine Kd.C_drewN ?_ _)|(with_reducible refine Kd.C_drew ?_)));(case side2=>exact (Kd.R_reads' HO854.out).2.1);(case side3=>repeat (first|exact (Kd.R_reads' HO860.out).2.2|(with_reducible refine Kd.C_alloc ?_ _)|(with_reducible refine Kd.C_drewN ?_ _)|(with_reducible refine Kd.C_drew ?_)));(case side4=>exact (Kd.R_reads' HO860.out).2.1);rintro e w' ⟨rfl,⟨nd,rfl⟩⟩;(try first|exact ⟨rfl,_,World.drewN_drewN _ _ _⟩|exact ⟨rfl,_,Eq.trans (World.drewN_drewN _ _ _) (congrArg (World.drewN _) (Nat.add_assoc _ _ _))⟩);obtain ⟨Ao17,co17,eo17⟩:=Kd.R_slice HO852.out;subst eo17;obtain ⟨Ao18,co18,eo18⟩:=Kd.R_slice HO858.out;subst eo18)|(go_at_call 31;(with_reducible refine (laws_sameProducers.calls k _ _ t849 _ _ t855 true _ ?side1 ?side2 ?side3 ?side4 A13.out).mono ?_);(case side1=>repeat (first|exact (Kd.R_reads' HO852.out).2.2|(with_reducible refine Kd.C_alloc ?_ _)|(with_reducible refine Kd.C_drewN ?_ _)|(with_reducible refine Kd.C_drew ?_)));(case side2=>exact (Kd.R_reads' HO852.out).2.1);(case side3=>repeat (first|exact (Kd.R_reads' HO858.out).2.2|(with_reducible refine Kd.C_alloc ?_ _)|(with_reducible refine Kd.C_drewN ?_ _)|(with_reducible refine Kd.C_drew ?_)));(case side4=>exact (Kd.R_reads' HO858.out).2.1);rintro e w' ⟨rfl,⟨nd,rfl⟩⟩;(try first|exact ⟨rfl,_,World.drewN_drewN _ _ _⟩|exact ⟨rfl,_,Eq.trans (World.drewN_drewN _ _ _) (congrArg (World.drewN _) (Nat.add_assoc _ _ _))⟩)))
     repeat (go_quiet (first|(go_at_call 38;(with_reducible refine (laws_sameInts.calls k _ _ t850 _ _ t856 true _ ?side1 ?side2 ?side3 ?side4 A11.out).mono ?_);(case side1=>repeat (first|exact (Kd.R_reads' HO854.out).2.2|(with_reducible refine Kd.C_alloc ?_ _)|(with_reducible refine Kd.C_drewN ?_ _)|(with_reducible refine Kd.C_drew ?_)));(case side2=>exact (Kd.R_reads' HO854.out).2.1);(case side3=>repeat (first|exact (Kd.R_reads' HO860.out).2.2|(with_reducible refine Kd.C_alloc ?_ _)|(with_reducible refine Kd.C_drewN ?_ _)|(with_reducible refine Kd.C_drew ?_)));(case side4=>exact (Kd.R_reads' HO860.out).2.1);rintro e w' ⟨rfl,⟨nd,rfl⟩⟩;(try first|exact ⟨rfl,_,World.drewN_drewN _ _ _⟩|exact ⟨rfl,_,Eq.trans (World.drewN_drewN _ _ _) (congrArg (World.drewN _) (Nat.add_assoc _ _ _))⟩);obtain ⟨Ao17,co17,eo17⟩:=Kd.R_slice HO852.out;subst eo17;obtain ⟨Ao18,co18,eo18⟩:=Kd.R_slice HO858.out;subst eo18)|(go_at_call 31;(with_reducible refine (laws_sameProducers.calls k _ _ t849 _ _ t855 true _ ?side1 ?side2 ?side3 ?side4 A13.out).mono ?_);(case side1=>repeat (first|exact (Kd.R_reads' HO852.out).2.2|(with_reducible refine Kd.C_alloc ?_ _)|(with_reducible refine Kd.C_drewN ?_ _)|(with_reducible refine Kd.C_drew ?_)));(case side2=>exact (Kd.R_reads' HO852.out).2.1);(case side3=>repeat (first|exact (Kd.R_reads' HO858.out).2.2|(with_reducible refine Kd.C_alloc ?_ _)|(with_reducible refine Kd.C_drewN ?_ _)|(with_reducible refine Kd.C_drew ?_)));(case side4=>exact (Kd.R_reads' HO858.out).2.1);rintro e w' ⟨rfl,⟨nd,rfl⟩⟩;(try first|exact ⟨rfl,_,World.drewN_drewN _ _ _⟩|exact ⟨rfl,_,Eq.trans (World.drewN_drewN _ _ _) (congrArg (World.drewN _) (Nat.add_assoc _ _ _))⟩)));try go_wp2_with (first|(go_at_call 38;(with_reducible refine (laws_sameInts.calls k _ _ t850 _ _ t856 true _ ?side1 ?side2 ?side3 ?side4 A11.out).mono ?_);(case side1=>repeat (first|exact (Kd.R_reads' HO854.out).2.2|(with_reducible refine Kd.C_alloc ?_ _)|(with_reducible refine Kd.C_drewN ?_ _)|(with_reducible refine Kd.C_drew ?_)));(case side2=>exact (Kd.R_reads' HO854.out).2.1);(case side3=>repeat (first|exact (Kd.R_reads' HO860.out).2.2|(with_reducible refine Kd.C_alloc ?_ _)|(with_reducible refine Kd.C_drewN ?_ _)|(with_reducible refine Kd.C_drew ?_)));(case side4=>exact (Kd.R_reads' HO860.out).2.1);rintro e w' ⟨rfl,⟨nd,rfl⟩⟩;(try first|exact ⟨rfl,_,World.drewN_drewN _ _ _⟩|exact ⟨rfl,_,Eq.trans (World.drewN_drewN _ _ _) (congrArg (World.drewN _) (Nat.add_assoc _ _ _))⟩);obtain ⟨Ao17,co17,eo17⟩:=Kd.R_slice HO852.out;subst eo17;obtain ⟨Ao18,co18,eo18⟩:=Kd.R_slice HO858.out;subst eo18)|(go_at_call 31;(with_reducible refine (laws_sameProducers.calls k _ _ t849 _ _ t855 true _ ?side1 ?side2 ?side3 ?side4 A13.out).mono ?_);(case side1=>repeat (first|exact (Kd.R_reads' HO852.out).2.2|(with_reducible refine Kd.C_alloc ?_ _)|(with_reducible refine Kd.C_drewN ?_ _)|(with_reducible refine Kd.C_drew ?_)));(case side2=>exact (Kd.R_reads' HO852.out).2.1);(case side3=>repeat (first|exact (Kd.R_reads' HO858.out).2.2|(with_reducible refine Kd.C_alloc ?_ _)|(with_reducible refine Kd.C_drewN ?_ _)|(with_reducible refine Kd.C_drew ?_)));(case side4=>exact (Kd.R_reads' HO858.out).2.1);rintro e w' ⟨rfl,⟨nd,rfl⟩⟩;(try first|exact ⟨rfl,_,World.drewN_drewN _ _ _⟩|exact ⟨rfl,_,Eq.trans (World.drewN_drewN _ _ _) (congrArg (World.drewN _) (Nat.add_assoc _ _ _))⟩))))
     go_meet
     case rel=>exact ⟨_,(((t846.length:Int) == 0)),(by first|rfl|(simp;done)|(simp [*];done)),H',⟨by first|omega|exact Nat.le_refl _⟩,⟨by (with_reducible repeat (first|apply Kd.N_alloc|apply Kd.N_drewN|apply Kd.N_drew));exact Kd.N_mono HO848.out (fun _ hk=>⟨hk.1.1.1.2,⟨hk.1.1.2,⟨hk.1.2,hk.2⟩⟩⟩)⟩,⟨by (with_reducible repeat (first|apply Kd.R_alloc|apply Kd.R_drewN|apply Kd.R_drew));exact Kd.R_mono HO852.out (fun _ hk=>hk.2)⟩,⟨by (with_reducible repeat (first|apply Kd.R_alloc|apply Kd.R_drewN|apply Kd.R_drew));exact Kd.R_mono HO854.out (fun _ hk=>hk.2)⟩,⟨by (with_reducible repeat (first|apply Kd.R_alloc|apply Kd.R_drewN|apply Kd.R_drew));exact Kd.R_mono HO858.out (fun _ hk=>hk.2)⟩,⟨by (with_reducible repeat (first|apply Kd.R_alloc|apply Kd.R_drewN|apply Kd.R_drew));exact Kd.R_mono HO860.out (fun _ hk=>hk.2)⟩,⟨by repeat (first|(with_reducible first|exact HB.out|apply below_alloc|apply pw_below_drewN|apply below_drew1)|exact HB.out)⟩⟩
    ·replace c14:=Bool.eq_false_iff.mpr c14
     subst c14
     have H1:(laws_FnRunTwice.j0 k t846 t849 t850 t855 t856 true)=some r:=by rw [if_neg (show ¬ (false=true) by decide)] at H;exact H
     clear H
     have H:=H1
     clear H1
     have H':=Aside0.mk H
     clear H
     obtain ⟨Ao19,co19,eo19⟩:=Kd.R_slice HO854.out
     subst eo19
     obtain ⟨Ao20,co20,eo20⟩:=Kd.R_slice HO860.out
     subst eo20
     go_wp2_with (first|(go_at_call 38;(with_reducible refine (laws_sameInts.calls k _ _ t850 _ _ t856 true _ ?side1 ?side2 ?side3 ?side4 A11.out).mono ?_);(case side1=>repeat (first|exact (Kd.R_reads' HO854.out).2.2|(with_reducible refine Kd.C_alloc ?_ _)|(with_reducible refine Kd.C_drewN ?_ _)|(with_reducible refine Kd.C_drew ?_)));(case side2=>exact (Kd.R_reads' HO854.out).2.1);(case side3=>repeat (first|exact (Kd.R_reads' HO860.out).2.2|(with_reducible refine Kd.C_alloc ?_ _)|(with_reducible refine Kd.C_drewN ?_ _)|(with_reducible refine Kd.C_drew ?_)));(case side4=>exact (Kd.R_reads' HO860.out).2.1);rintro e w' ⟨rfl,⟨nd,rfl⟩⟩;(try first|exact ⟨rfl,_,World.drewN_drewN _ _ _⟩|exact ⟨rfl,_,Eq.trans (World.drewN_drewN _ _ _) (congrArg (World.drewN _) (Nat.add_assoc _ _ _))⟩);obtain ⟨Ao21,co21,eo21⟩:=Kd.R_slice HO852.out;subst eo21;obtain ⟨Ao22,co22,eo22⟩:=Kd.R_slice HO858.out;subst eo22)|(go_at_call 31;(with_reducible refine (laws_sameProducers.calls k _ _ t849 _ _ t855 false _ ?side1 ?side2 ?side3 ?side4 A13.out).mono ?_);(case side1=>repeat (first|exact (Kd.R_reads' HO852.out).2.2|(with_reducible refine Kd.C_alloc ?_ _)|(with_reducible refine Kd.C_drewN ?_ _)|(with_reducible refine Kd.C_drew ?_)));(case side2=>exact (Kd.R_reads' HO852.out).2.1);(case side3=>repeat (first|exact (Kd.R_reads' HO858.out).2.2|(with_reducible refine Kd.C_alloc ?_ _)|(with_reducible refine Kd.C_drewN ?_ _)|(with_reducible refine Kd.C_drew ?_)));(case side4=>exact (Kd.R_reads' HO858.out).2.1);rintro e w' ⟨rfl,⟨nd,rfl⟩⟩;(try first|exact ⟨rfl,_,World.drewN_drewN _ _ _⟩|exact ⟨rfl,_,Eq.trans (World.drewN_drewN _ _ _) (congrArg (World.drewN _) (Nat.add_assoc _ _ _))⟩)))
     repeat (go_quiet (first|(go_at_call 38;(with_reducible refine (laws_sameInts.calls k _ _ t850 _ _ t856 true _ ?side1 ?side2 ?side3 ?side4 A11.out).mono ?_);(case side1=>repeat (first|exact (Kd.R_reads' HO854.out).2.2|(with_reducible refine Kd.C_alloc ?_ _)|(with_reducible refine Kd.C_drewN ?_ _)|(with_reducible refine Kd.C_drew ?_)));(case side2=>exact (Kd.R_reads' HO854.out).2.1);(case side3=>repeat (first|exact (Kd.R_reads' HO860.out).2.2|(with_reducible refine Kd.C_alloc ?_ _)|(with_reducible refine Kd.C_drewN ?_ _)|(with_reducible refine Kd.C_drew ?_)));(case side4=>exact (Kd.R_reads' HO860.out).2.1);rintro e w' ⟨rfl,⟨nd,rfl⟩⟩;(try first|exact ⟨rfl,_,World.drewN_drewN _ _ _⟩|exact ⟨rfl,_,Eq.trans (World.drewN_drewN _ _ _) (congrArg (World.drewN _) (Nat.add_assoc _ _ _))⟩);obtain ⟨Ao21,co21,eo21⟩:=Kd.R_slice HO852.out;subst eo21;obtain ⟨Ao22,co22,eo22⟩:=Kd.R_slice HO858.out;subst eo22)|(go_at_call 31;(with_reducible refine (laws_sameProducers.calls k _ _ t849 _ _ t855 false _ ?side1 ?side2 ?side3 ?side4 A13.out).mono ?_);(case side1=>repeat (first|exact (Kd.R_reads' HO852.out).2.2|(with_reducible refine Kd.C_alloc ?_ _)|(with_reducible refine Kd.C_drewN ?_ _)|(with_reducible refine Kd.C_drew ?_)));(case side2=>exact (Kd.R_reads' HO852.out).2.1);(case side3=>repeat (first|exact (Kd.R_reads' HO858.out).2.2|(with_reducible refine Kd.C_alloc ?_ _)|(with_reducible refine Kd.C_drewN ?_ _)|(with_reducible refine Kd.C_drew ?_)));(case side4=>exact (Kd.R_reads' HO858.out).2.1);rintro e w' ⟨rfl,⟨nd,rfl⟩⟩;(try first|exact ⟨rfl,_,World.drewN_drewN _ _ _⟩|exact ⟨rfl,_,Eq.trans (World.drewN_drewN _ _ _) (congrArg (World.drewN _) (Nat.add_assoc _ _ _))⟩)));try go_wp2_with (first|(go_at_call 38;(with_reducible refine (laws_sameInts.calls k _ _ t850 _ _ t856 true _ ?side1 ?side2 ?side3 ?side4 A11.out).mono ?_);(case side1=>repeat (first|exact (Kd.R_reads' HO854.out).2.2|(with_reducible refine Kd.C_alloc ?_ _)|(with_reducible refine Kd.C_drewN ?_ _)|(with_reducible refine Kd.C_drew ?_)));(case side2=>exact (Kd.R_reads' HO854.out).2.1);(case side3=>repeat (first|exact (Kd.R_reads' HO860.out).2.2|(with_reducible refine Kd.C_alloc ?_ _)|(with_reducible refine Kd.C_drewN ?_ _)|(with_reducible refine Kd.C_drew ?_)));(case side4=>exact (Kd.R_reads' HO860.out).2.1);rintro e w' ⟨rfl,⟨nd,rfl⟩⟩;(try first|exact ⟨rfl,_,World.drewN_drewN _ _ _⟩|exact ⟨rfl,_,Eq.trans (World.drewN_drewN _ _ _) (congrArg (World.drewN _) (Nat.add_assoc _ _ _))⟩);obtain ⟨Ao21,co21,eo21⟩:=Kd.R_slice HO852.out;subst eo21;obtain ⟨Ao22,co22,eo22⟩:=Kd.R_slice HO858.out;subst eo22)|(go_at_call 31;(with_reducible refine (laws_sameProducers.calls k _ _ t849 _ _ t855 false _ ?side1 ?side2 ?side3 ?side4 A13.out).mono ?_);(case side1=>repeat (first|exact (Kd.R_reads' HO852.out).2.2|(with_reducible refine Kd.C_alloc ?_ _)|(with_reducible refine Kd.C_drewN ?_ _)|(with_reducible refine Kd.C_drew ?_)));(case side2=>exact (Kd.R_reads' HO852.out).2.1);(case side3=>repeat (first|exact (Kd.R_reads' HO858.out).2.2|(with_reducible refine Kd.C_alloc ?_ _)|(with_reducible refine Kd.C_drewN ?_ _)|(with_reducible refine Kd.C_drew ?_)));(case side4=>exact (Kd.R_reads' HO858.out).2.1);rintro e w' ⟨rfl,⟨nd,rfl⟩⟩;(try first|exact ⟨rfl,_,World.drewN_drewN _ _ _⟩|exact ⟨rfl,_,Eq.trans (World.drewN_drewN _ _ _) (congrArg (World.drewN _) (Nat.add_assoc _ _ _))⟩))))
     go_meet
     case rel=>exact ⟨_,(true),(by first|rfl|(simp;done)|(simp [*];done)),H',⟨by first|omega|exact Nat.le_refl _⟩,⟨by (with_reducible repeat (first|apply Kd.N_alloc|apply Kd.N_drewN|apply Kd.N_drew));exact Kd.N_mono HO848.out (fun _ hk=>⟨hk.1.1.1.2,⟨hk.1.1.2,⟨hk.1.2,hk.2⟩⟩⟩)⟩,⟨by (with_reducible repeat (first|apply Kd.R_alloc|apply Kd.R_drewN|apply Kd.R_drew));exact Kd.R_mono HO852.out (fun _ hk=>hk.2)⟩,⟨by (with_reducible repeat (first|apply Kd.R_alloc|apply Kd.R_drewN|apply Kd.R_drew));exact Kd.R_mono HO854.out (fun _ hk=>hk.2)⟩,⟨by (with_reducible repeat (first|apply Kd.R_alloc|apply Kd.R_drewN|apply Kd.R_drew));exact Kd.R_mono HO858.out (fun _ hk=>hk.2)⟩,⟨by (with_reducible repeat (first|apply Kd.R_alloc|apply Kd.R_drewN|apply Kd.R_drew));exact Kd.R_mono HO860.out (fun _ hk=>hk.2)⟩,⟨by repeat (first|(with_reducible first|exact HB.out|apply below_alloc|apply pw_below_drewN|apply below_drew1)|exact HB.out)⟩⟩
   ·replace c12:=Bool.eq_false_iff.mpr c12
    subst c12
    have H1:(laws_FnRunTwice.j0 k t846 t849 t850 t855 t856 true)=some r:=by rw [if_neg (show ¬ (false=true) by decide)] at H;exact H
    clear H
    have H:=H1
    clear H1
    have H':=Aside0.mk H
    clear H
    obtain ⟨Ao23,co23,eo23⟩:=Kd.R_slice HO854.out
    subst eo23
    obtain ⟨Ao24,co24,eo24⟩:=Kd.R_slice HO860.out
    subst eo24
    go_wp2_with (first|(go_at_call 38;(with_reducible refine (laws_sameInts.calls k _ _ t850 _ _ t856 false _ ?side1 ?side2 ?side3 ?side4 A11.out).mono ?_);(case side1=>repeat (first|exact (Kd.R_reads' HO854.out).2.2|(with_reducible refine Kd.C_alloc ?_ _)|(with_reducible refine Kd.C_drewN ?_ _)|(with_reducible refine Kd.C_drew ?_)));(case side2=>exact (Kd.R_reads' HO854.out).2.1);(case side3=>repeat (first|exact (Kd.R_reads' HO860.out).2.2|(with_reducible refine Kd.C_alloc ?_ _)|(with_reducible refine Kd.C_drewN ?_ _)|(with_reducible refine Kd.C_drew ?_)));(case side4=>exact (Kd.R_reads' HO860.out).2.1);rintro e w' ⟨rfl,⟨nd,rfl⟩⟩;(try first|exact ⟨rfl,_,World.drewN_drewN _ _ _⟩|exact ⟨rfl,_,Eq.trans (World.drewN_drewN _ _ _) (congrArg (World.drewN _) (Nat.add_assoc _ _ _))⟩)))
    repeat (go_quiet (first|(go_at_call 38;(with_reducible refine (laws_sameInts.calls k _ _ t850 _ _ t856 false _ ?side1 ?side2 ?side3 ?side4 A11.out).mono ?_);(case side1=>repeat (first|exact (Kd.R_reads' HO854.out).2.2|(with_reducible refine Kd.C_alloc ?_ _)|(with_reducible refine Kd.C_drewN ?_ _)|(with_reducible refine Kd.C_drew ?_)));(case side2=>exact (Kd.R_reads' HO854.out).2.1);(case side3=>repeat (first|exact (Kd.R_reads' HO860.out).2.2|(with_reducible refine Kd.C_alloc ?_ _)|(with_reducible refine Kd.C_drewN ?_ _)|(with_reducible refine Kd.C_drew ?_)));(case side4=>exact (Kd.R_reads' HO860.out).2.1);rintro e w' ⟨rfl,⟨nd,rfl⟩⟩;(try first|exact ⟨rfl,_,World.drewN_drewN _ _ _⟩|exact ⟨rfl,_,Eq.trans (World.drewN_drewN _ _ _) (congrArg (World.drewN _) (Nat.add_assoc _ _ _))⟩)));try go_wp2_with (first|(go_at_call 38;(with_reducible refine (laws_sameInts.calls k _ _ t850 _ _ t856 false _ ?side1 ?side2 ?side3 ?side4 A11.out).mono ?_);(case side1=>repeat (first|exact (Kd.R_reads' HO854.out).2.2|(with_reducible refine Kd.C_alloc ?_ _)|(with_reducible refine Kd.C_drewN ?_ _)|(with_reducible refine Kd.C_drew ?_)));(case side2=>exact (Kd.R_reads' HO854.out).2.1);(case side3=>repeat (first|exact (Kd.R_reads' HO860.out).2.2|(with_reducible refine Kd.C_alloc ?_ _)|(with_reducible refine Kd.C_drewN ?_ _)|(with_reducible refine Kd.C_drew ?_)));(case side4=>exact (Kd.R_reads' HO860.out).2.1);rintro e w' ⟨rfl,⟨nd,rfl⟩⟩;(try first|exact ⟨rfl,_,World.drewN_drewN _ _ _⟩|exact ⟨rfl,_,Eq.trans (World.drewN_drewN _ _ _) (congrArg (World.drewN _) (Nat.add_assoc _ _ _))⟩))))
    go_meet
    case rel=>exact ⟨_,(true),(by first|rfl|(simp;done)|(simp [*];done)),H',⟨by first|omega|exact Nat.le_refl _⟩,⟨by (with_reducible repeat (first|apply Kd.N_alloc|apply Kd.N_drewN|apply Kd.N_drew));exact Kd.N_mono HO848.out (fun _ hk=>⟨hk.1.1.1.2,⟨hk.1.1.2,⟨hk.1.2,hk.2⟩⟩⟩)⟩,⟨by (with_reducible repeat (first|apply Kd.R_alloc|apply Kd.R_drewN|apply Kd.R_drew));exact Kd.R_mono HO852.out (fun _ hk=>hk.2)⟩,⟨by (with_reducible repeat (first|apply Kd.R_alloc|apply Kd.R_drewN|apply Kd.R_drew));exact Kd.R_mono HO854.out (fun _ hk=>hk.2)⟩,⟨by (with_reducible repeat (first|apply Kd.R_alloc|apply Kd.R_drewN|apply Kd.R_drew));exact Kd.R_mono HO858.out (fun _ hk=>hk.2)⟩,⟨by (with_reducible repeat (first|apply Kd.R_alloc|apply Kd.R_drewN|apply Kd.R_drew));exact Kd.R_mono HO860.out (fun _ hk=>hk.2)⟩,⟨by repeat (first|(with_reducible first|exact HB.out|apply below_alloc|apply pw_below_drewN|apply below_drew1)|exact HB.out)⟩⟩
  case rest=>
   clear HC6
   try clear c1
   try clear c2
   try clear c2b0
   try clear c2b1
   try clear p2
   try clear c12
   try clear c14
   try clear c15
   obtain ⟨kq,x41_5,rfl,HA,HJ5,HO_3,HO_4,HO_5,HO_6,HO_7,HB⟩:=hcut
   cases kq with
   | zero=>exact absurd HA.out (by simp [laws_FnRunTwice.j0])
   | succ kj5=>
    have H:=HA.out
    clear HA
    simp only [laws_FnRunTwice.j0] at H
    by_cases c25:x41_5=true
    ·subst c25
     have H1:((laws_sameInts.f kj5 t850 t856).bind fun t863=>(if t863=true then ((laws_sameProducers.f kj5 t849 t855).bind fun t864=>(some t864)) else (some false)))=some r:=by rw [if_pos rfl] at H;exact H
     clear H
     have H:=H1
     clear H1
     replace H:=Option.bind_eq_some_iff.mp H
     obtain ⟨t863,A260,H⟩:=H
     replace H:(if t863=true then ((laws_sameProducers.f kj5 t849 t855).bind fun t864=>(some t864)) else (some false))=some r:=H
     have A26:=Aside0.mk A260
     clear A260
     by_cases c27:t863=true
     ·subst c27
      have H1:((laws_sameProducers.f kj5 t849 t855).bind fun t864=>(some t864))=some r:=by rw [if_pos rfl] at H;exact H
      clear H
      have H:=H1
      clear H1
      replace H:=Option.bind_eq_some_iff.mp H
      obtain ⟨t864,A280,H⟩:=H
      replace H:(some t864)=some r:=H
      have A28:=Aside0.mk A280
      clear A280
      obtain rfl:=Option.some.inj H
      obtain ⟨Ao29,co29,eo29⟩:=Kd.R_slice HO_5.out
      subst eo29
      obtain ⟨Ao30,co30,eo30⟩:=Kd.R_slice HO_7.out
      subst eo30
      go_wp2_with (first|(go_at_call 38;(with_reducible refine (laws_sameInts.calls kj5 _ _ t850 _ _ t856 true _ ?side1 ?side2 ?side3 ?side4 A26.out).mono ?_);(case side1=>repeat (first|exact (Kd.R_reads' HO_5.out).2.2|(with_reducible refine Kd.C_alloc ?_ _)|(with_reducible refine Kd.C_drewN ?_ _)|(with_reducible refine Kd.C_drew ?_)));(case side2=>exact (Kd.R_reads' HO_5.out).2.1);(case side3=>repeat (first|exact (Kd.R_reads' HO_7.out).2.2|(with_reducible refine Kd.C_alloc ?_ _)|(with_reducible refine Kd.C_drewN ?_ _)|(with_reducible refine Kd.C_drew ?_)));(case side4=>exact (Kd.R_reads' HO_7.out).2.1);rintro e w' ⟨rfl,⟨nd,rfl⟩⟩;(try first|exact ⟨rfl,_,World.drewN_drewN _ _ _⟩|exact ⟨rfl,_,Eq.trans (World.drewN_drewN _ _ _) (congrArg (World.drewN _) (Nat.add_assoc _ _ _))⟩);obtain ⟨Ao31,co31,eo31⟩:=Kd.R_slice HO_4.out;subst eo31;obtain ⟨Ao32,co32,eo32⟩:=Kd.R_slice HO_6.out;subst eo32)|(go_at_call 31;(with_reducible refine (laws_sameProducers.calls kj5 _ _ t849 _ _ t855 t864 _ ?side1 ?side2 ?side3 ?side4 A28.out).mono ?_);(case side1=>repeat (first|exact (Kd.R_reads' HO_4.out).2.2|(with_reducible refine Kd.C_alloc ?_ _)|(with_reducible refine Kd.C_drewN ?_ _)|(with_reducible refine Kd.C_drew ?_)));(case side2=>exact (Kd.R_reads' HO_4.out).2.1);(case side3=>repeat (first|exact (Kd.R_reads' HO_6.out).2.2|(with_reducible refine Kd.C_alloc ?_ _)|(with_reducible refine Kd.C_drewN ?_ _)|(with_reducible refine Kd.C_drew ?_)));(case side4=>exact (Kd.R_reads' HO_6.out).2.1);rintro e w' ⟨rfl,⟨nd,rfl⟩⟩;(try first|exact ⟨rfl,_,World.drewN_drewN _ _ _⟩|exact ⟨rfl,_,Eq.trans (World.drewN_drewN _ _ _) (congrArg (World.drewN _) (Nat.add_assoc _ _ _))⟩)))
      repeat (go_quiet (first|(go_at_call 38;(with_reducible refine (laws_sameInts.calls kj5 _ _ t850 _ _ t856 true _ ?side1 ?side2 ?side3 ?side4 A26.out).mono ?_);(case side1=>repeat (first|exact (Kd.R_reads' HO_5.out).2.2|(with_reducible refine Kd.C_alloc ?_ _)|(with_reducible refine Kd.C_drewN ?_ _)|(with_reducible refine Kd.C_drew ?_)));(case side2=>exact (Kd.R_reads' HO_5.out).2.1);(case side3=>repeat (first|exact (Kd.R_reads' HO_7.out).2.2|(with_reducible refine Kd.C_alloc ?_ _)|(with_reducible refine Kd.C_drewN ?_ _)|(with_reducible refine Kd.C_drew ?_)));(case side4=>exact (Kd.R_reads' HO_7.out).2.1);rintro e w' ⟨rfl,⟨nd,rfl⟩⟩;(try first|exact ⟨rfl,_,World.drewN_drewN _ _ _⟩|exact ⟨rfl,_,Eq.trans (World.drewN_drewN _ _ _) (congrArg (World.drewN _) (Nat.add_assoc _ _ _))⟩);obtain ⟨Ao31,co31,eo31⟩:=Kd.R_slice HO_4.out;subst eo31;obtain ⟨Ao32,co32,eo32⟩:=Kd.R_slice HO_6.out;subst eo32)|(go_at_call 31;(with_reducible refine (laws_sameProducers.calls kj5 _ _ t849 _ _ t855 t864 _ ?side1 ?side2 ?side3 ?side4 A28.out).mono ?_);(case side1=>repeat (first|exact (Kd.R_reads' HO_4.out).2.2|(with_reducible refine Kd.C_alloc ?_ _)|(with_reducible refine Kd.C_drewN ?_ _)|(with_reducible refine Kd.C_drew ?_)));(case side2=>exact (Kd.R_reads' HO_4.out).2.1);(case side3=>repeat (first|exact (Kd.R_reads' HO_6.out).2.2|(with_reducible refine Kd.C_alloc ?_ _)|(with_reducible refine Kd.C_drewN ?_ _)|(with_reducible refine Kd.C_drew ?_)));(case side4=>exact (Kd.R_reads' HO_6.out).2.1);rintro e w' ⟨rfl,⟨nd,rfl⟩⟩;(try first|exact ⟨rfl,_,World.drewN_drewN _ _ _⟩|exact ⟨rfl,_,Eq.trans (World.drewN_drewN _ _ _) (congrArg (World.drewN _) (Nat.add_assoc _ _ _))⟩)));try go_wp2_with (first|(go_at_call 38;(with_reducible refine (laws_sameInts.calls kj5 _ _ t850 _ _ t856 true _ ?side1 ?side2 ?side3 ?side4 A26.out).mono ?_);(case side1=>repeat (first|exact (Kd.R_reads' HO_5.out).2.2|(with_reducible refine Kd.C_alloc ?_ _)|(with_reducible refine Kd.C_drewN ?_ _)|(with_reducible refine Kd.C_drew ?_)));(case side2=>exact (Kd.R_reads' HO_5.out).2.1);(case side3=>repeat (first|exact (Kd.R_reads' HO_7.out).2.2|(with_reducible refine Kd.C_alloc ?_ _)|(with_reducible refine Kd.C_drewN ?_ _)|(with_reducible refine Kd.C_drew ?_)));(case side4=>exact (Kd.R_reads' HO_7.out).2.1);rintro e w' ⟨rfl,⟨nd,rfl⟩⟩;(try first|exact ⟨rfl,_,World.drewN_drewN _ _ _⟩|exact ⟨rfl,_,Eq.trans (World.drewN_drewN _ _ _) (congrArg (World.drewN _) (Nat.add_assoc _ _ _))⟩);obtain ⟨Ao31,co31,eo31⟩:=Kd.R_slice HO_4.out;subst eo31;obtain ⟨Ao32,co32,eo32⟩:=Kd.R_slice HO_6.out;subst eo32)|(go_at_call 31;(with_reducible refine (laws_sameProducers.calls kj5 _ _ t849 _ _ t855 t864 _ ?side1 ?side2 ?side3 ?side4 A28.out).mono ?_);(case side1=>repeat (first|exact (Kd.R_reads' HO_4.out).2.2|(with_reducible refine Kd.C_alloc ?_ _)|(with_reducible refine Kd.C_drewN ?_ _)|(with_reducible refine Kd.C_drew ?_)));(case side2=>exact (Kd.R_reads' HO_4.out).2.1);(case side3=>repeat (first|exact (Kd.R_reads' HO_6.out).2.2|(with_reducible refine Kd.C_alloc ?_ _)|(with_reducible refine Kd.C_drewN ?_ _)|(with_reducible refine Kd.C_drew ?_)));(case side4=>exact (Kd.R_reads' HO_6.out).2.1);rintro e w' ⟨rfl,⟨nd,rfl⟩⟩;(try first|exact ⟨rfl,_,World.drewN_drewN _ _ _⟩|exact ⟨rfl,_,Eq.trans (World.drewN_drewN _ _ _) (congrArg (World.drewN _) (Nat.add_assoc _ _ _))⟩))))
      go_ret
      exact ⟨by first|rfl|(simp [errW_none,errW_some] <;> rfl)|(simp [*,errW_none,errW_some] <;> rfl),by repeat (first|(with_reducible first|exact HB.out|apply below_alloc|apply pw_below_drewN|apply below_drew1)|exact HB.out)⟩
     ·replace c27:=Bool.eq_false_iff.mpr c27
      subst c27
      have H1:(some false)=some r:=by rw [if_neg (show ¬ (false=true) by decide)] at H;exact H
      clear H
      have H:=H1
      clear H1
      obtain rfl:=Option.some.inj H
      obtain ⟨Ao33,co33,eo33⟩:=Kd.R_slice HO_5.out
      subst eo33
      obtain ⟨Ao34,co34,eo34⟩:=Kd.R_slice HO_7.out
      subst eo34
      go_wp2_with (first|(go_at_call 38;(with_reducible refine (laws_sameInts.calls kj5 _ _ t850 _ _ t856 false _ ?side1 ?side2 ?side3 ?side4 A26.out).mono ?_);(case side1=>repeat (first|exact (Kd.R_reads' HO_5.out).2.2|(with_reducible refine Kd.C_alloc ?_ _)|(with_reducible refine Kd.C_drewN ?_ _)|(with_reducible refine Kd.C_drew ?_)));(case side2=>exact (Kd.R_reads' HO_5.out).2.1);(case side3=>repeat (first|exact (Kd.R_reads' HO_7.out).2.2|(with_reducible refine Kd.C_alloc ?_ _)|(with_reducible refine Kd.C_drewN ?_ _)|(with_reducible refine Kd.C_drew ?_)));(case side4=>exact (Kd.R_reads' HO_7.out).2.1);rintro e w' ⟨rfl,⟨nd,rfl⟩⟩;(try first|exact ⟨rfl,_,World.drewN_drewN _ _ _⟩|exact ⟨rfl,_,Eq.trans (World.drewN_drewN _ _ _) (congrArg (World.drewN _) (Nat.add_assoc _ _ _))⟩)))
      repeat (go_quiet (first|(go_at_call 38;(with_reducible refine (laws_sameInts.calls kj5 _ _ t850 _ _ t856 false _ ?side1 ?side2 ?side3 ?side4 A26.out).mono ?_);(case side1=>repeat (first|exact (Kd.R_reads' HO_5.out).2.2|(with_reducible refine Kd.C_alloc ?_ _)|(with_reducible refine Kd.C_drewN ?_ _)|(with_reducible refine Kd.C_drew ?_)));(case side2=>exact (Kd.R_reads' HO_5.out).2.1);(case side3=>repeat (first|exact (Kd.R_reads' HO_7.out).2.2|(with_reducible refine Kd.C_alloc ?_ _)|(with_reducible refine Kd.C_drewN ?_ _)|(with_reducible refine Kd.C_drew ?_)));(case side4=>exact (Kd.R_reads' HO_7.out).2.1);rintro e w' ⟨rfl,⟨nd,rfl⟩⟩;(try first|exact ⟨rfl,_,World.drewN_drewN _ _ _⟩|exact ⟨rfl,_,Eq.trans (World.drewN_drewN _ _ _) (congrArg (World.drewN _) (Nat.add_assoc _ _ _))⟩)));try go_wp2_with (first|(go_at_call 38;(with_reducible refine (laws_sameInts.calls kj5 _ _ t850 _ _ t856 false _ ?side1 ?side2 ?side3 ?side4 A26.out).mono ?_);(case side1=>repeat (first|exact (Kd.R_reads' HO_5.out).2.2|(with_reducible refine Kd.C_alloc ?_ _)|(with_reducible refine Kd.C_drewN ?_ _)|(with_reducible refine Kd.C_drew ?_)));(case side2=>exact (Kd.R_reads' HO_5.out).2.1);(case side3=>repeat (first|exact (Kd.R_reads' HO_7.out).2.2|(with_reducible refine Kd.C_alloc ?_ _)|(with_reducible refine Kd.C_drewN ?_ _)|(with_reducible refine Kd.C_drew ?_)));(case side4=>exact (Kd.R_reads' HO_7.out).2.1);rintro e w' ⟨rfl,⟨nd,rfl⟩⟩;(try first|exact ⟨rfl,_,World.drewN_drewN _ _ _⟩|exact ⟨rfl,_,Eq.trans (World.drewN_drewN _ _ _) (congrArg (World.drewN _) (Nat.add_assoc _ _ _))⟩))))
      go_ret
      exact ⟨by first|rfl|(simp [errW_none,errW_some] <;> rfl)|(simp [*,errW_none,errW_some] <;> rfl),by repeat (first|(with_reducible first|exact HB.out|apply below_alloc|apply pw_below_drewN|apply below_drew1)|exact HB.out)⟩
    ·replace c25:=Bool.eq_false_iff.mpr c25
     subst c25
     have H1:(laws_FnRunTwice.l0 kj5 t846 t850 0)=some r:=by rw [if_neg (show ¬ (false=true) by decide)] at H;exact H
     clear H
     have H:=H1
     clear H1
     have H':=Aside0.mk H
     clear H
     go_wp2
     repeat (go_quiet (fail);try go_wp2)
     go_loopg [8] kj5 (fun kq v8 w'=>∃ (x8_2:Int),v8 = .int .i64 x8_2∧Aside0 (laws_FnRunTwice.l0 kq t846 t850 x8_2=some r)∧Aside0 (kq ≤ kj5)∧Aside0 (Kd.N k34 34 w' w.heap.size (fun k_=>some k_ ≠ (v853:Value).ownBlock) (.slice Ao8 t846.length co8) t846)∧Aside0 (Kd.R (Kd.int .i64) 3 w' w.heap.size (fun _=>True) v853 t850)∧Aside0 (Below w.heap.size w w'))
     case atStart=>exact ⟨(0),(by first|rfl|(simp;done)|(simp [*];done)),H',⟨Nat.le_refl _⟩,⟨by (with_reducible repeat (first|apply Kd.N_alloc|apply Kd.N_drewN|apply Kd.N_drew));exact Kd.N_mono HO_3.out (fun _ hk=>hk.2.1)⟩,⟨by (with_reducible repeat (first|apply Kd.R_alloc|apply Kd.R_drewN|apply Kd.R_drew));exact Kd.R_mono HO_5.out (fun _ hk=>trivial)⟩,⟨by repeat (first|(with_reducible first|exact HB.out|apply below_alloc|apply pw_below_drewN|apply below_drew1)|exact HB.out)⟩⟩
     case round=>
      clear H'
      try clear c1
      try clear c2
      try clear c2b0
      try clear c2b1
      try clear p2
      try clear c12
      try clear c14
      try clear c15
      try clear c25
      try clear c27
      try clear p2
      obtain ⟨x8_2,rfl,HA,HK2,HO_3,HO_5,HB⟩:=hrel
      cases gk with
      | zero=>exact absurd HA.out (by simp [laws_FnRunTwice.l0])
      | succ k2=>
       have H:=HA.out
       clear HA
       simp only [laws_FnRunTwice.l0] at H
       by_cases c35:x8_2 < (t846.length:Int)
       ·rw [if_pos c35] at H
        have c35b0:decide (x8_2 < (t846.length:Int))=true:=decide_eq_true c35
        clear c35
        by_cases c36 : 0 ≤ x8_2
        ·rw [if_pos c36] at H
         have c36b0:decide (0 ≤ x8_2)=true:=decide_eq_true c36
         clear c36
         by_cases c37:x8_2 < (t850.length:Int)
         ·rw [if_pos c37] at H
          have c37b0:decide (x8_2 < (t850.length:Int))=true:=decide_eq_true c37
          clear c37
          by_cases c38:(rd t850 x8_2)=0
          ·rw [if_pos c38] at H
           have c38b0:((rd t850 x8_2) == 0)=true:=beq_iff_eq.mpr c38
           have c38b1:((rd t850 x8_2) != 0)=false:=bne_eq_false_iff_eq.mpr c38
           clear c38
           by_cases c39 : 0 < (t846.length:Int)
           ·rw [if_pos c39] at H
            have c39b0:decide (0 < (t846.length:Int))=true:=decide_eq_true c39
            have c39b1:decide (0 < t846.length)=true:=decide_eq_true (by omega)
            clear c39
            by_cases c40:((rd_T34 t846 x8_2).f3)=((rd_T34 t846 0).f3)
            ·rw [if_pos c40] at H
             have c40b0:(((rd_T34 t846 x8_2).f3) == ((rd_T34 t846 0).f3))=true:=beq_iff_eq.mpr c40
             have c40b1:(((rd_T34 t846 x8_2).f3) != ((rd_T34 t846 0).f3))=false:=bne_eq_false_iff_eq.mpr c40
             clear c40
             have H':=Aside0.mk H
             clear H
             obtain ⟨Ao41,co41,eo41⟩:=Kd.R_slice HO_5.out
             subst eo41
             have p865 : 0 ≤ (x8_2:Int):=of_decide_eq_true (by first|(with_reducible assumption)|assumption)
             have q865:x8_2 < (t850.length:Int):=of_decide_eq_true (by first|(with_reducible assumption)|assumption)
             obtain ⟨ad865,e865,hx865_0⟩:=Kd.at_int (Kd.R_reads' HO_5.out).2.2 x8_2 p865 q865
             cases e865
             replace p865:=eq_true p865
             replace q865:=eq_true q865
             have p866 : 0 ≤ (x8_2:Int):=of_decide_eq_true (by first|(with_reducible assumption)|assumption)
             have q866:x8_2 < (t846.length:Int):=of_decide_eq_true (by first|(with_reducible assumption)|assumption)
             obtain ⟨ad866,A866_5,c866_5,e866,hx866_0,hx866_1,hx866_2,hx866_3,hx866_4,hx866_5,hl866_5,hi866_5⟩:=at_T34 (Kd.N_reads' HO_3.out).2.2 x8_2 p866 q866
             cases e866
             obtain ⟨ce866,hce866,hMe866,hcc866⟩:=Kd.N_get HO_3.out z34 x8_2 p866 (by first|exact q866|exact of_decide_eq_true (by first|(with_reducible assumption)|assumption)|(have e_:=(Kd.N_reads' HO_3.out).1;omega))
             obtain ⟨ua866_5,uc866_5,rfl,ul866_5,ge866_5⟩:=k34_openF hMe866
             have hv866_5:=hcc866 5 _ rfl
             rw [add_field _ _ 5 (by omega)] at hv866_5
             replace hv866_5:=Option.some.inj (hv866_5.symm.trans hx866_5)
             injection hv866_5 with hva_ hvn_ hvc_
             rw [hva_] at ge866_5
             rw [hvc_] at ul866_5
             have HL866_5:=Aside0.mk (show Kd.V k79 79 _ w.heap.size _ _ ((rd_T34 t846 x8_2).f5) from Kd.V_mk ul866_5 ge866_5)
             clear hva_ hvn_ hvc_ ge866_5 ul866_5
             clear hcc866 hce866
             have HR866_5:=Aside0.mk hi866_5
             have HC866_5:=Aside0.mk hl866_5
             clear hi866_5 hl866_5
             replace p866:=eq_true p866
             replace q866:=eq_true q866
             have p867 : 0 ≤ (0:Int):=(by omega)
             have q867 : 0 < (t846.length:Int):=of_decide_eq_true (by first|(with_reducible assumption)|assumption)
             obtain ⟨ad867,A867_5,c867_5,e867,hx867_0,hx867_1,hx867_2,hx867_3,hx867_4,hx867_5,hl867_5,hi867_5⟩:=at_T34 (Kd.N_reads' HO_3.out).2.2 0 p867 q867
             obtain rfl:ad866=ad867:=(by injection e867)
             obtain ⟨ce867,hce867,hMe867,hcc867⟩:=Kd.N_get HO_3.out z34 0 p867 (by first|exact q867|exact of_decide_eq_true (by first|(with_reducible assumption)|assumption)|(have e_:=(Kd.N_reads' HO_3.out).1;omega))
             obtain ⟨ua867_5,uc867_5,rfl,ul867_5,ge867_5⟩:=k34_openF hMe867
             have hv867_5:=hcc867 5 _ rfl
             rw [add_field _ _ 5 (by omega)] at hv867_5
             replace hv867_5:=Option.some.inj (hv867_5.symm.trans hx867_5)
             injection hv867_5 with hva_ hvn_ hvc_
             rw [hva_] at ge867_5
             rw [hvc_] at ul867_5
             have HL867_5:=Aside0.mk (show Kd.V k79 79 _ w.heap.size _ _ ((rd_T34 t846 0).f5) from Kd.V_mk ul867_5 ge867_5)
             clear hva_ hvn_ hvc_ ge867_5 ul867_5
             clear hcc867 hce867
             have qi867:(0 < t846.length)=True:=eq_true (by omega)
             (try rw [show ((0:Int)).toNat=0 from rfl] at hx867_0)
             (try rw [show 0 * 6=0 from rfl] at hx867_0)
             (try rw [Addr.add_zero'] at hx867_0)
             (try rw [show ((0:Int)).toNat=0 from rfl] at hx867_1)
             (try rw [show 0 * 6=0 from rfl] at hx867_1)
             (try rw [Addr.add_zero'] at hx867_1)
             (try rw [show ((0:Int)).toNat=0 from rfl] at hx867_2)
             (try rw [show 0 * 6=0 from rfl] at hx867_2)
             (try rw [Addr.add_zero'] at hx867_2)
             (try rw [show ((0:Int)).toNat=0 from rfl] at hx867_3)
             (try rw [show 0 * 6=0 from rfl] at hx867_3)
             (try rw [Addr.add_zero'] at hx867_3)
             (try rw [show ((0:Int)).toNat=0 from rfl] at hx867_4)
             (try rw [show 0 * 6=0 from rfl] at hx867_4)
             (try rw [Addr.add_zero'] at hx867_4)
             (try rw [show ((0:Int)).toNat=0 from rfl] at hx867_5)
             (try rw [show 0 * 6=0 from rfl] at hx867_5)
             (try rw [Addr.add_zero'] at hx867_5)
             have HR867_5:=Aside0.mk hi867_5
             have HC867_5:=Aside0.mk hl867_5
             clear hi867_5 hl867_5
             replace p867:=eq_true p867
             replace q867:=eq_true q867
             go_wp2
             repeat (go_quiet (fail);try go_wp2)
             go_roundg k2
             case measure=>have:=HJ5.out;have:=HK2.out;omega
             case rel=>exact ⟨(wrap64 (x8_2+1)),(by first|rfl|(simp;done)|(simp [*];done)),H',⟨by have:=HJ5.out;have:=HK2.out;omega⟩,⟨by (with_reducible repeat (first|apply Kd.N_alloc|apply Kd.N_drewN|apply Kd.N_drew));exact HO_3.out⟩,⟨by (with_reducible repeat (first|apply Kd.R_alloc|apply Kd.R_drewN|apply Kd.R_drew));exact HO_5.out⟩,⟨by repeat (first|(with_reducible first|exact HB.out|apply below_alloc|apply pw_below_drewN|apply below_drew1)|exact HB.out)⟩⟩
            ·rw [if_neg c40] at H
             have c40b0:(((rd_T34 t846 x8_2).f3) == ((rd_T34 t846 0).f3))=false:=beq_eq_false_iff_ne.mpr c40
             have c40b1:(((rd_T34 t846 x8_2).f3) != ((rd_T34 t846 0).f3))=true:=bne_iff_ne.mpr c40
             obtain rfl:=Option.some.inj H
             obtain ⟨Ao42,co42,eo42⟩:=Kd.R_slice HO_5.out
             subst eo42
             have p865 : 0 ≤ (x8_2:Int):=of_decide_eq_true (by first|(with_reducible assumption)|assumption)
             have q865:x8_2 < (t850.length:Int):=of_decide_eq_true (by first|(with_reducible assumption)|assumption)
             obtain ⟨ad865,e865,hx865_0⟩:=Kd.at_int (Kd.R_reads' HO_5.out).2.2 x8_2 p865 q865
             cases e865
             replace p865:=eq_true p865
             replace q865:=eq_true q865
             have p866 : 0 ≤ (x8_2:Int):=of_decide_eq_true (by first|(with_reducible assumption)|assumption)
             have q866:x8_2 < (t846.length:Int):=of_decide_eq_true (by first|(with_reducible assumption)|assumption)
             obtain ⟨ad866,A866_5,c866_5,e866,hx866_0,hx866_1,hx866_2,hx866_3,hx866_4,hx866_5,hl866_5,hi866_5⟩:=at_T34 (Kd.N_reads' HO_3.out).2.2 x8_2 p866 q866
             cases e866
             obtain ⟨ce866,hce866,hMe866,hcc866⟩:=Kd.N_get HO_3.out z34 x8_2 p866 (by first|exact q866|exact of_decide_eq_true (by first|(with_reducible assumption)|assumption)|(have e_:=(Kd.N_reads' HO_3.out).1;omega))
             obtain ⟨ua866_5,uc866_5,rfl,ul866_5,ge866_5⟩:=k34_openF hMe866
             have hv866_5:=hcc866 5 _ rfl
             rw [add_field _ _ 5 (by omega)] at hv866_5
             replace hv866_5:=Option.some.inj (hv866_5.symm.trans hx866_5)
             injection hv866_5 with hva_ hvn_ hvc_
             rw [hva_] at ge866_5
             rw [hvc_] at ul866_5
             have HL866_5:=Aside0.mk (show Kd.V k79 79 _ w.heap.size _ _ ((rd_T34 t846 x8_2).f5) from Kd.V_mk ul866_5 ge866_5)
             clear hva_ hvn_ hvc_ ge866_5 ul866_5
             clear hcc866 hce866
             have HR866_5:=Aside0.mk hi866_5
             have HC866_5:=Aside0.mk hl866_5
             clear hi866_5 hl866_5
             replace p866:=eq_true p866
             replace q866:=eq_true q866
             have p867 : 0 ≤ (0:Int):=(by omega)
             have q867 : 0 < (t846.length:Int):=of_decide_eq_true (by first|(with_reducible assumption)|assumption)
             obtain ⟨ad867,A867_5,c867_5,e867,hx867_0,hx867_1,hx867_2,hx867_3,hx867_4,hx867_5,hl867_5,hi867_5⟩:=at_T34 (Kd.N_reads' HO_3.out).2.2 0 p867 q867
             obtain rfl:ad866=ad867:=(by injection e867)
             obtain ⟨ce867,hce867,hMe867,hcc867⟩:=Kd.N_get HO_3.out z34 0 p867 (by first|exact q867|exact of_decide_eq_true (by first|(with_reducible assumption)|assumption)|(have e_:=(Kd.N_reads' HO_3.out).1;omega))
             obtain ⟨ua867_5,uc867_5,rfl,ul867_5,ge867_5⟩:=k34_openF hMe867
             have hv867_5:=hcc867 5 _ rfl
             rw [add_field _ _ 5 (by omega)] at hv867_5
             replace hv867_5:=Option.some.inj (hv867_5.symm.trans hx867_5)
             injection hv867_5 with hva_ hvn_ hvc_
             rw [hva_] at ge867_5
             rw [hvc_] at ul867_5
             have HL867_5:=Aside0.mk (show Kd.V k79 79 _ w.heap.size _ _ ((rd_T34 t846 0).f5) from Kd.V_mk ul867_5 ge867_5)
             clear hva_ hvn_ hvc_ ge867_5 ul867_5
             clear hcc867 hce867
             have qi867:(0 < t846.length)=True:=eq_true (by omega)
             (try rw [show ((0:Int)).toNat=0 from rfl] at hx867_0)
             (try rw [show 0 * 6=0 from rfl] at hx867_0)
             (try rw [Addr.add_zero'] at hx867_0)
             (try rw [show ((0:Int)).toNat=0 from rfl] at hx867_1)
             (try rw [show 0 * 6=0 from rfl] at hx867_1)
             (try rw [Addr.add_zero'] at hx867_1)
             (try rw [show ((0:Int)).toNat=0 from rfl] at hx867_2)
             (try rw [show 0 * 6=0 from rfl] at hx867_2)
             (try rw [Addr.add_zero'] at hx867_2)
             (try rw [show ((0:Int)).toNat=0 from rfl] at hx867_3)
             (try rw [show 0 * 6=0 from rfl] at hx867_3)
             (try rw [Addr.add_zero'] at hx867_3)
             (try rw [show ((0:Int)).toNat=0 from rfl] at hx867_4)
             (try rw [show 0 * 6=0 from rfl] at hx867_4)
             (try rw [Addr.add_zero'] at hx867_4)
             (try rw [show ((0:Int)).toNat=0 from rfl] at hx867_5)
             (try rw [show 0 * 6=0 from rfl] at hx867_5)
             (try rw [Addr.add_zero'] at hx867_5)
             have HR867_5:=Aside0.mk hi867_5
             have HC867_5:=Aside0.mk hl867_5
             clear hi867_5 hl867_5
             replace p867:=eq_true p867
             replace q867:=eq_true q867
             go_wp2
             repeat (go_quiet (fail);try go_wp2)
             go_ret
             exact ⟨by first|rfl|(simp [errW_none,errW_some] <;> rfl)|(simp [*,errW_none,errW_some] <;> rfl),by repeat (first|(with_reducible first|exact HB.out|apply below_alloc|apply pw_below_drewN|apply below_drew1)|exact HB.out)⟩
           ·rw [if_neg c39] at H
            exact absurd H (by simp)
          ·rw [if_neg c38] at H
           have c38b0:((rd t850 x8_2) == 0)=false:=beq_eq_false_iff_ne.mpr c38
           have c38b1:((rd t850 x8_2) != 0)=true:=bne_iff_ne.mpr c38
           obtain rfl:=Option.some.inj H
           obtain ⟨Ao43,co43,eo43⟩:=Kd.R_slice HO_5.out
           subst eo43
           have p865 : 0 ≤ (x8_2:Int):=of_decide_eq_true (by first|(with_reducible assumption)|assumption)
           have q865:x8_2 < (t850.length:Int):=of_decide_eq_true (by first|(with_reducible assumption)|assumption)
           obtain ⟨ad865,e865,hx865_0⟩:=Kd.at_int (Kd.R_reads' HO_5.out).2.2 x8_2 p865 q865
           cases e865
           replace p865:=eq_true p865
           replace q865:=eq_true q865
           go_wp2
           repeat (go_quiet (fail);try go_wp2)
           go_ret
           exact ⟨by first|rfl|(simp [errW_none,errW_some] <;> rfl)|(simp [*,errW_none,errW_some] <;> rfl),by repeat (first|(with_reducible first|exact HB.out|apply below_alloc|apply pw_below_drewN|apply below_drew1)|exact HB.out)⟩
         ·rw [if_neg c37] at H
          exact absurd H (by simp)
        ·rw [if_neg c36] at H
         exact absurd H (by simp)
       ·rw [if_neg c35] at H
        have c35b0:decide (x8_2 < (t846.length:Int))=false:=decide_eq_false c35
        clear c35
        obtain ⟨y868,hy868⟩:∃ y_:List (S34),y_=(([]:List (S34))):=⟨_,rfl⟩
        replace H:(if y868.length+t846.length < 2513169434916 then ((some (y868 ++ t846:List (S34))).bind fun y871=>(if y871.length+t846.length < 2513169434916 then ((impl_ProducersRun.f k2 (y871 ++ t846)).bind fun bt877=>(laws_FnRunTwice.l1 k2 t846 bt877.2 (t846.length:Int))) else (none))) else (none))=some r:=by first|(rw [hy868];with_reducible exact H)|(have H2_:=(Option.bind_some _ _).symm.trans H;rw [hy868];with_reducible exact H2_)|(have H2_:=(Option.bind_some _ _).symm.trans H;with_reducible exact H2_)|with_reducible exact H|(rw [hy868];exact H)|exact H
        have Ny868:=Aside0.mk hy868
        clear hy868
        by_cases c44:y868.length+t846.length < 2513169434916
        ·rw [if_pos c44] at H
         have LMc44:=Aside0.mk c44
         clear c44
         obtain ⟨y871,hy871⟩:∃ y_:List (S34),y_=(y868 ++ t846):=⟨_,rfl⟩
         replace H:(if y871.length+t846.length < 2513169434916 then ((impl_ProducersRun.f k2 (y871 ++ t846)).bind fun bt877=>(laws_FnRunTwice.l1 k2 t846 bt877.2 (t846.length:Int))) else (none))=some r:=by first|(rw [hy871];with_reducible exact H)|(have H2_:=(Option.bind_some _ _).symm.trans H;rw [hy871];with_reducible exact H2_)|(have H2_:=(Option.bind_some _ _).symm.trans H;with_reducible exact H2_)|with_reducible exact H|(rw [hy871];exact H)|exact H
         have Ny871:=Aside0.mk hy871
         clear hy871
         by_cases c45:y871.length+t846.length < 2513169434916
         ·rw [if_pos c45] at H
          have LMc45:=Aside0.mk c45
          clear c45
          obtain ⟨y874,hy874⟩:∃ y_:List (S34),y_=(y871 ++ t846):=⟨_,rfl⟩
          replace H:((impl_ProducersRun.f k2 y874).bind fun bt877=>(laws_FnRunTwice.l1 k2 t846 bt877.2 (t846.length:Int)))=some r:=by first|(rw [hy874];with_reducible exact H)|(have H2_:=(Option.bind_some _ _).symm.trans H;rw [hy874];with_reducible exact H2_)|(have H2_:=(Option.bind_some _ _).symm.trans H;with_reducible exact H2_)|with_reducible exact H|(rw [hy874];exact H)|exact H
          have Ny874:=Aside0.mk hy874
          clear hy874
          replace H:=Option.bind_eq_some_iff.mp H
          obtain ⟨⟨t877,t878⟩,A460,H⟩:=H
          replace H:(laws_FnRunTwice.l1 k2 t846 t878 (t846.length:Int))=some r:=H
          have A46:=Aside0.mk A460
          clear A460
          have H':=Aside0.mk H
          clear H
          go_wp2_with (first|((with_reducible refine gate_dst (N:=74) rfl ?_);(try (refine gate_guard (by rfl) ?_;dsimp only));refine Kd.N_lit k34 _ 34 ?hg (N':=74) ?hd (xs:=([]:List (S34))) (inner:=[]) (ok:=(fun k_=>some k_ ≠ (.slice Ao8 t846.length co8:Value).ownBlock∧some k_ ≠ (v853:Value).ownBlock)) (okp:=(fun k_=>some k_ ≠ (.slice Ao8 t846.length co8:Value).ownBlock∧some k_ ≠ (v853:Value).ownBlock)) ?hr ?hp (fun _ hk=>hk) ((show ∀ k_,wr.heap.size ≤ k_→(fun k_=>some k_ ≠ (.slice Ao8 t846.length co8:Value).ownBlock∧some k_ ≠ (v853:Value).ownBlock) k_ from fun k_ hk=>⟨Kd.fresh' (Kd.N_lt (by (with_reducible repeat (first|apply Kd.N_alloc|apply Kd.N_drewN|apply Kd.N_drew));exact HO_3.out)) k_ hk,Kd.fresh' (Kd.R_lt (by (with_reducible repeat (first|apply Kd.R_alloc|apply Kd.R_drewN|apply Kd.R_drew));exact HO_5.out)) k_ hk⟩) _ (Nat.le_refl _)) (Below.refl _ _) (Nat.le_refl _) (by simp) ?_;(case hd=>rfl);(case hg=>rfl);(case hr=>first|(go_simp;done)|(go_simp;rfl));(case hp=>exact (Reps.none _ _));intro v869 w47 ho48 hb hg_ hnew_;clear hg_ hnew_;(first|rw [← Ny868.out] at ho48|(simp only [Int.reduceToNat] at ho48;rw [← Ny868.out] at ho48));have n0_:=Aside0.mk (Kd.N_elder' (by (with_reducible repeat (first|apply Kd.N_alloc|apply Kd.N_drewN|apply Kd.N_drew));exact HO_3.out) (Kd.N_base ho48) hb);have n1_:=Aside0.mk (Kd.R_below (by (with_reducible repeat (first|apply Kd.R_alloc|apply Kd.R_drewN|apply Kd.R_drew));exact HO_5.out) hb);have n2_:=Aside0.mk (Kd.N_lower ho48 (below_size (by repeat (first|(with_reducible first|exact HB.out|apply below_alloc|apply pw_below_drewN|apply below_drew1)|exact HB.out))));have n3_:=Aside0.mk (below_step (by repeat (first|(with_reducible first|exact HB.out|apply below_alloc|apply pw_below_drewN|apply below_drew1)|exact HB.out)) hb);clear HO_3 HO_5 HB;have HO_3:=n0_;have HO_5:=n1_;have HO870:=n2_;have HB:=n3_;clear n0_ n1_ n2_ n3_;clear hb ho48)|((with_reducible refine gate_builtin (b:=.append) (xs:=#[.tmp 74,.tmp 75]) rfl ?_);(try (refine gate_guard (by rfl) ?_;dsimp only));at_builtin;refine Kd.N_append_rows k34 (w0:=w) w.heap.size rfl (.tmp 74) (.tmp 75) 51 34 (.agg #[(.bool false),(.bool false),(.int .i64 0),(.int .i64 0),(.int .i64 0),(.slice none 0 0)]) 56 rfl Try.underlying51 info34 rfl (by decide) (by omega) v869 y868 t846 _ _ _ (fun k_=>some k_ ≠ (v853:Value).ownBlock) (fun k_=>((fun k_=>some k_ ≠ (v853:Value).ownBlock)) k_∧some k_ ≠ (v869:Value).ownBlock) rfl rfl ?aO ?aR (fun _ hk=>hk) ?aF ?aB ?aS ?aL ?_;(case aR=>exact (by skip;exact Kd.N_F (Kd.N_mono (ok':=(fun k_=>((fun k_=>some k_ ≠ (v853:Value).ownBlock)) k_∧some k_ ≠ (v869:Value).ownBlock)) (HO_3.out) (fun k_ hk=>⟨hk.1,hk.2⟩))));(case aB=>exact (by repeat (first|(with_reducible first|exact HB.out|apply below_alloc|apply pw_below_drewN|apply below_drew1)|exact HB.out)));(case aF=>exact (fun k_ hk=>Kd.fresh' (Kd.R_lt (by (with_reducible repeat (first|apply Kd.R_alloc|apply Kd.R_drewN|apply Kd.R_drew));exact HO_5.out)) k_ hk));(case aO=>exact (by (with_reducible repeat (first|apply Kd.N_alloc|apply Kd.N_drewN|apply Kd.N_drew));exact Kd.N_mono HO870.out (fun _ hk=>hk.2)));(case aS=>exact (below_size (by repeat (first|(with_reducible first|exact HB.out|apply below_alloc|apply pw_below_drewN|apply below_drew1)|exact HB.out))));(case aL=>have:=LMc44.out;omega);intro v872 w49 ho hb hg hat;rw [← Ny871.out] at ho;have n0_:=Aside0.mk (Kd.N_afterv (ok:=(fun k_=>some k_ ≠ (v853:Value).ownBlock)) (by (with_reducible repeat (first|apply Kd.N_alloc|apply Kd.N_drewN|apply Kd.N_drew));exact HO_3.out) hg hat);have n1_:=Aside0.mk (Kd.R_over' (by (with_reducible repeat (first|apply Kd.R_alloc|apply Kd.R_drewN|apply Kd.R_drew));exact HO_5.out) (Kd.N_typed (by (with_reducible repeat (first|apply Kd.N_alloc|apply Kd.N_drewN|apply Kd.N_drew));exact HO870.out)) (by decide) hg);have n2_:=Aside0.mk (hb);have n3_:=Aside0.mk (ho);clear HO_3 HO_5 HB HO870;have HO_3:=n0_;have HO_5:=n1_;have HB:=n2_;have HO873:=n3_;clear n0_ n1_ n2_ n3_;clear ho hb hg hat)|((with_reducible refine gate_builtin (b:=.append) (xs:=#[.tmp 76,.tmp 77]) rfl ?_);(try (refine gate_guard (by rfl) ?_;dsimp only));at_builtin;refine Kd.N_append_rows k34 (w0:=w) w.heap.size rfl (.tmp 76) (.tmp 77) 51 34 (.agg #[(.bool false),(.bool false),(.int .i64 0),(.int .i64 0),(.int .i64 0),(.slice none 0 0)]) 56 rfl Try.underlying51 info34 rfl (by decide) (by omega) v872 y871 t846 _ _ _ (fun k_=>some k_ ≠ (v853:Value).ownBlock) (fun k_=>((fun k_=>some k_ ≠ (v853:Value).ownBlock)) k_∧some k_ ≠ (v872:Value).ownBlock) rfl rfl ?aO ?aR (fun _ hk=>hk) ?aF ?aB ?aS ?aL ?_;(case aR=>exact (by skip;exact Kd.N_F (Kd.N_mono (ok':=(fun k_=>((fun k_=>some k_ ≠ (v853:Value).ownBlock)) k_∧some k_ ≠ (v872:Value).ownBlock)) (HO_3.out) (fun k_ hk=>⟨hk.1,hk.2⟩))));(case aB=>exact (by repeat (first|(with_reducible first|exact HB.out|apply below_alloc|apply pw_below_drewN|apply below_drew1)|exact HB.out)));(case aF=>exact (fun k_ hk=>Kd.fresh' (Kd.R_lt (by (with_reducible repeat (first|apply Kd.R_alloc|apply Kd.R_drewN|apply Kd.R_drew));exact HO_5.out)) k_ hk));(case aO=>exact (by (with_reducible repeat (first|apply Kd.N_alloc|apply Kd.N_drewN|apply Kd.N_drew));exact HO873.out));(case aS=>exact (below_size (by repeat (first|(with_reducible first|exact HB.out|apply below_alloc|apply pw_below_drewN|apply below_drew1)|exact HB.out))));(case aL=>have:=LMc45.out;omega);intro v875 w50 ho hb hg hat;rw [← Ny874.out] at ho;have n0_:=Aside0.mk (Kd.N_afterv (ok:=(fun k_=>some k_ ≠ (v853:Value).ownBlock)) (by (with_reducible repeat (first|apply Kd.N_alloc|apply Kd.N_drewN|apply Kd.N_drew));exact HO_3.out) hg hat);have n1_:=Aside0.mk (Kd.R_over' (by (with_reducible repeat (first|apply Kd.R_alloc|apply Kd.R_drewN|apply Kd.R_drew));exact HO_5.out) (Kd.N_typed (by (with_reducible repeat (first|apply Kd.N_alloc|apply Kd.N_drewN|apply Kd.N_drew));exact HO873.out)) (by decide) hg);have n2_:=Aside0.mk (hb);have n3_:=Aside0.mk (ho);clear HO_3 HO_5 HB HO873;have HO_3:=n0_;have HO_5:=n1_;have HB:=n2_;have HO876:=n3_;clear n0_ n1_ n2_ n3_;clear ho hb hg hat;obtain ⟨Ao51,co51,eo51⟩:=Kd.N_slice HO876.out;subst eo51)|(go_at_call 36;(with_reducible refine (impl_ProducersRun.calls k2 _ _ y874 t877 t878 _ ?side1 ?side2 A46.out).mono ?_);(case side1=>repeat (first|exact (Kd.N_reads' HO876.out).2.2|(with_reducible refine Kd.C_alloc ?_ _)|(with_reducible refine Kd.C_drewN ?_ _)|(with_reducible refine Kd.C_drew ?_)));(case side2=>exact (Kd.N_reads' HO876.out).2.1);rintro e w52 ⟨v879,v881,rfl,ho0,ho1,hb⟩;have n0_:=Aside0.mk (Kd.N_mono (Kd.N_told (Kd.N_told (Kd.N_old (by (with_reducible repeat (first|apply Kd.N_alloc|apply Kd.N_drewN|apply Kd.N_drew));exact HO_3.out) hb) (Kd.R_base ho0)) (Kd.R_base ho1)) (fun _ h_=>h_.1));have n1_:=Aside0.mk (Kd.R_elder' (by (with_reducible repeat (first|apply Kd.R_alloc|apply Kd.R_drewN|apply Kd.R_drew));exact HO_5.out) (Kd.R_base ho1) hb);have n2_:=Aside0.mk (Kd.N_mono (Kd.N_told (Kd.N_told (Kd.N_old (by (with_reducible repeat (first|apply Kd.N_alloc|apply Kd.N_drewN|apply Kd.N_drew));exact HO876.out) hb) (Kd.R_base ho0)) (Kd.R_base ho1)) (fun _ h_=>h_.1));have n3_:=Aside0.mk (Kd.R_lower ho0 (below_size (by repeat (first|(with_reducible first|exact HB.out|apply below_alloc|apply pw_below_drewN|apply below_drew1)|exact HB.out))));have n4_:=Aside0.mk (Kd.R_lower (Kd.R_new' ho1 (Kd.R_lt (by (with_reducible repeat (first|apply Kd.R_alloc|apply Kd.R_drewN|apply Kd.R_drew));exact HO_5.out))) (below_size (by repeat (first|(with_reducible first|exact HB.out|apply below_alloc|apply pw_below_drewN|apply below_drew1)|exact HB.out))));have n5_:=Aside0.mk (below_step (by repeat (first|(with_reducible first|exact HB.out|apply below_alloc|apply pw_below_drewN|apply below_drew1)|exact HB.out)) hb);clear HO_3 HO_5 HO876 HB;have HO_3:=n0_;have HO_5:=n1_;have HO876:=n2_;have HO880:=n3_;have HO882:=n4_;have HB:=n5_;clear n0_ n1_ n2_ n3_ n4_ n5_;(try clear hb);(try clear hb2);(try clear hk);(try clear hi);(try clear ho0);(try clear ho1)))
          repeat (go_quiet (first|((with_reducible refine gate_dst (N:=74) rfl ?_);(try (refine gate_guard (by rfl) ?_;dsimp only));refine Kd.N_lit k34 _ 34 ?hg (N':=74) ?hd (xs:=([]:List (S34))) (inner:=[]) (ok:=(fun k_=>some k_ ≠ (.slice Ao8 t846.length co8:Value).ownBlock∧some k_ ≠ (v853:Value).ownBlock)) (okp:=(fun k_=>some k_ ≠ (.slice Ao8 t846.length co8:Value).ownBlock∧some k_ ≠ (v853:Value).ownBlock)) ?hr ?hp (fun _ hk=>hk) ((show ∀ k_,wr.heap.size ≤ k_→(fun k_=>some k_ ≠ (.slice Ao8 t846.length co8:Value).ownBlock∧some k_ ≠ (v853:Value).ownBlock) k_ from fun k_ hk=>⟨Kd.fresh' (Kd.N_lt (by (with_reducible repeat (first|apply Kd.N_alloc|apply Kd.N_drewN|apply Kd.N_drew));exact HO_3.out)) k_ hk,Kd.fresh' (Kd.R_lt (by (with_reducible repeat (first|apply Kd.R_alloc|apply Kd.R_drewN|apply Kd.R_drew));exact HO_5.out)) k_ hk⟩) _ (Nat.le_refl _)) (Below.refl _ _) (Nat.le_refl _) (by simp) ?_;(case hd=>rfl);(case hg=>rfl);(case hr=>first|(go_simp;done)|(go_simp;rfl));(case hp=>exact (Reps.none _ _));intro v869 w47 ho48 hb hg_ hnew_;clear hg_ hnew_;(first|rw [← Ny868.out] at ho48|(simp only [Int.reduceToNat] at ho48;rw [← Ny868.out] at ho48));have n0_:=Aside0.mk (Kd.N_elder' (by (with_reducible repeat (first|apply Kd.N_alloc|apply Kd.N_drewN|apply Kd.N_drew));exact HO_3.out) (Kd.N_base ho48) hb);have n1_:=Aside0.mk (Kd.R_below (by (with_reducible repeat (first|apply Kd.R_alloc|apply Kd.R_drewN|apply Kd.R_drew));exact HO_5.out) hb);have n2_:=Aside0.mk (Kd.N_lower ho48 (below_size (by repeat (first|(with_reducible first|exact HB.out|apply below_alloc|apply pw_below_drewN|apply below_drew1)|exact HB.out))));have n3_:=Aside0.mk (below_step (by repeat (first|(with_reducible first|exact HB.out|apply below_alloc|apply pw_below_drewN|apply below_drew1)|exact HB.out)) hb);clear HO_3 HO_5 HB;have HO_3:=n0_;have HO_5:=n1_;have HO870:=n2_;have HB:=n3_;clear n0_ n1_ n2_ n3_;clear hb ho48)|((with_reducible refine gate_builtin (b:=.append) (xs:=#[.tmp 74,.tmp 75]) rfl ?_);(try (refine gate_guard (by rfl) ?_;dsimp only));at_builtin;refine Kd.N_append_rows k34 (w0:=w) w.heap.size rfl (.tmp 74) (.tmp 75) 51 34 (.agg #[(.bool false),(.bool false),(.int .i64 0),(.int .i64 0),(.int .i64 0),(.slice none 0 0)]) 56 rfl Try.underlying51 info34 rfl (by decide) (by omega) v869 y868 t846 _ _ _ (fun k_=>some k_ ≠ (v853:Value).ownBlock) (fun k_=>((fun k_=>some k_ ≠ (v853:Value).ownBlock)) k_∧some k_ ≠ (v869:Value).ownBlock) rfl rfl ?aO ?aR (fun _ hk=>hk) ?aF ?aB ?aS ?aL ?_;(case aR=>exact (by skip;exact Kd.N_F (Kd.N_mono (ok':=(fun k_=>((fun k_=>some k_ ≠ (v853:Value).ownBlock)) k_∧some k_ ≠ (v869:Value).ownBlock)) (HO_3.out) (fun k_ hk=>⟨hk.1,hk.2⟩))));(case aB=>exact (by repeat (first|(with_reducible first|exact HB.out|apply below_alloc|apply pw_below_drewN|apply below_drew1)|exact HB.out)));(case aF=>exact (fun k_ hk=>Kd.fresh' (Kd.R_lt (by (with_reducible repeat (first|apply Kd.R_alloc|apply Kd.R_drewN|apply Kd.R_drew));exact HO_5.out)) k_ hk));(case aO=>exact (by (with_reducible repeat (first|apply Kd.N_alloc|apply Kd.N_drewN|apply Kd.N_drew));exact Kd.N_mono HO870.out (fun _ hk=>hk.2)));(case aS=>exact (below_size (by repeat (first|(with_reducible first|exact HB.out|apply below_alloc|apply pw_below_drewN|apply below_drew1)|exact HB.out))));(case aL=>have:=LMc44.out;omega);intro v872 w49 ho hb hg hat;rw [← Ny871.out] at ho;have n0_:=Aside0.mk (Kd.N_afterv (ok:=(fun k_=>some k_ ≠ (v853:Value).ownBlock)) (by (with_reducible repeat (first|apply Kd.N_alloc|apply Kd.N_drewN|apply Kd.N_drew));exact HO_3.out) hg hat);have n1_:=Aside0.mk (Kd.R_over' (by (with_reducible repeat (first|apply Kd.R_alloc|apply Kd.R_drewN|apply Kd.R_drew));exact HO_5.out) (Kd.N_typed (by (with_reducible repeat (first|apply Kd.N_alloc|apply Kd.N_drewN|apply Kd.N_drew));exact HO870.out)) (by decide) hg);have n2_:=Aside0.mk (hb);have n3_:=Aside0.mk (ho);clear HO_3 HO_5 HB HO870;have HO_3:=n0_;have HO_5:=n1_;have HB:=n2_;have HO873:=n3_;clear n0_ n1_ n2_ n3_;clear ho hb hg hat)|((with_reducible refine gate_builtin (b:=.append) (xs:=#[.tmp 76,.tmp 77]) rfl ?_);(try (refine gate_guard (by rfl) ?_;dsimp only));at_builtin;refine Kd.N_append_rows k34 (w0:=w) w.heap.size rfl (.tmp 76) (.tmp 77) 51 34 (.agg #[(.bool false),(.bool false),(.int .i64 0),(.int .i64 0),(.int .i64 0),(.slice none 0 0)]) 56 rfl Try.underlying51 info34 rfl (by decide) (by omega) v872 y871 t846 _ _ _ (fun k_=>some k_ ≠ (v853:Value).ownBlock) (fun k_=>((fun k_=>some k_ ≠ (v853:Value).ownBlock)) k_∧some k_ ≠ (v872:Value).ownBlock) rfl rfl ?aO ?aR (fun _ hk=>hk) ?aF ?aB ?aS ?aL ?_;(case aR=>exact (by skip;exact Kd.N_F (Kd.N_mono (ok':=(fun k_=>((fun k_=>some k_ ≠ (v853:Value).ownBlock)) k_∧some k_ ≠ (v872:Value).ownBlock)) (HO_3.out) (fun k_ hk=>⟨hk.1,hk.2⟩))));(case aB=>exact (by repeat (first|(with_reducible first|exact HB.out|apply below_alloc|apply pw_below_drewN|apply below_drew1)|exact HB.out)));(case aF=>exact (fun k_ hk=>Kd.fresh' (Kd.R_lt (by (with_reducible repeat (first|apply Kd.R_alloc|apply Kd.R_drewN|apply Kd.R_drew));exact HO_5.out)) k_ hk));(case aO=>exact (by (with_reducible repeat (first|apply Kd.N_alloc|apply Kd.N_drewN|apply Kd.N_drew));exact HO873.out));(case aS=>exact (below_size (by repeat (first|(with_reducible first|exact HB.out|apply below_alloc|apply pw_below_drewN|apply below_drew1)|exact HB.out))));(case aL=>have:=LMc45.out;omega);intro v875 w50 ho hb hg hat;rw [← Ny874.out] at ho;have n0_:=Aside0.mk (Kd.N_afterv (ok:=(fun k_=>some k_ ≠ (v853:Value).ownBlock)) (by (with_reducible repeat (first|apply Kd.N_alloc|apply Kd.N_drewN|apply Kd.N_drew));exact HO_3.out) hg hat);have n1_:=Aside0.mk (Kd.R_over' (by (with_reducible repeat (first|apply Kd.R_alloc|apply Kd.R_drewN|apply Kd.R_drew));exact HO_5.out) (Kd.N_typed (by (with_reducible repeat (first|apply Kd.N_alloc|apply Kd.N_drewN|apply Kd.N_drew));exact HO873.out)) (by decide) hg);have n2_:=Aside0.mk (hb);have n3_:=Aside0.mk (ho);clear HO_3 HO_5 HB HO873;have HO_3:=n0_;have HO_5:=n1_;have HB:=n2_;have HO876:=n3_;clear n0_ n1_ n2_ n3_;clear ho hb hg hat;obtain ⟨Ao51,co51,eo51⟩:=Kd.N_slice HO876.out;subst eo51)|(go_at_call 36;(with_reducible refine (impl_ProducersRun.calls k2 _ _ y874 t877 t878 _ ?side1 ?side2 A46.out).mono ?_);(case side1=>repeat (first|exact (Kd.N_reads' HO876.out).2.2|(with_reducible refine Kd.C_alloc ?_ _)|(with_reducible refine Kd.C_drewN ?_ _)|(with_reducible refine Kd.C_drew ?_)));(case side2=>exact (Kd.N_reads' HO876.out).2.1);rintro e w52 ⟨v879,v881,rfl,ho0,ho1,hb⟩;have n0_:=Aside0.mk (Kd.N_mono (Kd.N_told (Kd.N_told (Kd.N_old (by (with_reducible repeat (first|apply Kd.N_alloc|apply Kd.N_drewN|apply Kd.N_drew));exact HO_3.out) hb) (Kd.R_base ho0)) (Kd.R_base ho1)) (fun _ h_=>h_.1));have n1_:=Aside0.mk (Kd.R_elder' (by (with_reducible repeat (first|apply Kd.R_alloc|apply Kd.R_drewN|apply Kd.R_drew));exact HO_5.out) (Kd.R_base ho1) hb);have n2_:=Aside0.mk (Kd.N_mono (Kd.N_told (Kd.N_told (Kd.N_old (by (with_reducible repeat (first|apply Kd.N_alloc|apply Kd.N_drewN|apply Kd.N_drew));exact HO876.out) hb) (Kd.R_base ho0)) (Kd.R_base ho1)) (fun _ h_=>h_.1));have n3_:=Aside0.mk (Kd.R_lower ho0 (below_size (by repeat (first|(with_reducible first|exact HB.out|apply below_alloc|apply pw_below_drewN|apply below_drew1)|exact HB.out))));have n4_:=Aside0.mk (Kd.R_lower (Kd.R_new' ho1 (Kd.R_lt (by (with_reducible repeat (first|apply Kd.R_alloc|apply Kd.R_drewN|apply Kd.R_drew));exact HO_5.out))) (below_size (by repeat (first|(with_reducible first|exact HB.out|apply below_alloc|apply pw_below_drewN|apply below_drew1)|exact HB.out))));have n5_:=Aside0.mk (below_step (by repeat (first|(with_reducible first|exact HB.out|apply below_alloc|apply pw_below_drewN|apply below_drew1)|exact HB.out)) hb);clear HO_3 HO_5 HO876 HB;have HO_3:=n0_;have HO_5:=n1_;have HO876:=n2_;have HO880:=n3_;have HO882:=n4_;have HB:=n5_;clear n0_ n1_ n2_ n3_ n4_ n5_;(try clear hb);(try clear hb2);(try clear hk);(try clear hi);(try clear ho0);(try clear ho1)));try go_wp2_with (first|((with_reducible refine gate_dst (N:=74) rfl ?_);(try (refine gate_guard (by rfl) ?_;dsimp only));refine Kd.N_lit k34 _ 34 ?hg (N':=74) ?hd (xs:=([]:List (S34))) (inner:=[]) (ok:=(fun k_=>some k_ ≠ (.slice Ao8 t846.length co8:Value).ownBlock∧some k_ ≠ (v853:Value).ownBlock)) (okp:=(fun k_=>some k_ ≠ (.slice Ao8 t846.length co8:Value).ownBlock∧some k_ ≠ (v853:Value).ownBlock)) ?hr ?hp (fun _ hk=>hk) ((show ∀ k_,wr.heap.size ≤ k_→(fun k_=>some k_ ≠ (.slice Ao8 t846.length co8:Value).ownBlock∧some k_ ≠ (v853:Value).ownBlock) k_ from fun k_ hk=>⟨Kd.fresh' (Kd.N_lt (by (with_reducible repeat (first|apply Kd.N_alloc|apply Kd.N_drewN|apply Kd.N_drew));exact HO_3.out)) k_ hk,Kd.fresh' (Kd.R_lt (by (with_reducible repeat (first|apply Kd.R_alloc|apply Kd.R_drewN|apply Kd.R_drew));exact HO_5.out)) k_ hk⟩) _ (Nat.le_refl _)) (Below.refl _ _) (Nat.le_refl _) (by simp) ?_;(case hd=>rfl);(case hg=>rfl);(case hr=>first|(go_simp;done)|(go_simp;rfl));(case hp=>exact (Reps.none _ _));intro v869 w47 ho48 hb hg_ hnew_;clear hg_ hnew_;(first|rw [← Ny868.out] at ho48|(simp only [Int.reduceToNat] at ho48;rw [← Ny868.out] at ho48));have n0_:=Aside0.mk (Kd.N_elder' (by (with_reducible repeat (first|apply Kd.N_alloc|apply Kd.N_drewN|apply Kd.N_drew));exact HO_3.out) (Kd.N_base ho48) hb);have n1_:=Aside0.mk (Kd.R_below (by (with_reducible repeat (first|apply Kd.R_alloc|apply Kd.R_drewN|apply Kd.R_drew));exact HO_5.out) hb);have n2_:=Aside0.mk (Kd.N_lower ho48 (below_size (by repeat (first|(with_reducible first|exact HB.out|apply below_alloc|apply pw_below_drewN|apply below_drew1)|exact HB.out))));have n3_:=Aside0.mk (below_step (by repeat (first|(with_reducible first|exact HB.out|apply below_alloc|apply pw_below_drewN|apply below_drew1)|exact HB.out)) hb);clear HO_3 HO_5 HB;have HO_3:=n0_;have HO_5:=n1_;have HO870:=n2_;have HB:=n3_;clear n0_ n1_ n2_ n3_;clear hb ho48)|((with_reducible refine gate_builtin (b:=.append) (xs:=#[.tmp 74,.tmp 75]) rfl ?_);(try (refine gate_guard (by rfl) ?_;dsimp only));at_builtin;refine Kd.N_append_rows k34 (w0:=w) w.heap.size rfl (.tmp 74) (.tmp 75) 51 34 (.agg #[(.bool false),(.bool false),(.int .i64 0),(.int .i64 0),(.int .i64 0),(.slice none 0 0)]) 56 rfl Try.underlying51 info34 rfl (by decide) (by omega) v869 y868 t846 _ _ _ (fun k_=>some k_ ≠ (v853:Value).ownBlock) (fun k_=>((fun k_=>some k_ ≠ (v853:Value).ownBlock)) k_∧some k_ ≠ (v869:Value).ownBlock) rfl rfl ?aO ?aR (fun _ hk=>hk) ?aF ?aB ?aS ?aL ?_;(case aR=>exact (by skip;exact Kd.N_F (Kd.N_mono (ok':=(fun k_=>((fun k_=>some k_ ≠ (v853:Value).ownBlock)) k_∧some k_ ≠ (v869:Value).ownBlock)) (HO_3.out) (fun k_ hk=>⟨hk.1,hk.2⟩))));(case aB=>exact (by repeat (first|(with_reducible first|exact HB.out|apply below_alloc|apply pw_below_drewN|apply below_drew1)|exact HB.out)));(case aF=>exact (fun k_ hk=>Kd.fresh' (Kd.R_lt (by (with_reducible repeat (first|apply Kd.R_alloc|apply Kd.R_drewN|apply Kd.R_drew));exact HO_5.out)) k_ hk));(case aO=>exact (by (with_reducible repeat (first|apply Kd.N_alloc|apply Kd.N_drewN|apply Kd.N_drew));exact Kd.N_mono HO870.out (fun _ hk=>hk.2)));(case aS=>exact (below_size (by repeat (first|(with_reducible first|exact HB.out|apply below_alloc|apply pw_below_drewN|apply below_drew1)|exact HB.out))));(case aL=>have:=LMc44.out;omega);intro v872 w49 ho hb hg hat;rw [← Ny871.out] at ho;have n0_:=Aside0.mk (Kd.N_afterv (ok:=(fun k_=>some k_ ≠ (v853:Value).ownBlock)) (by (with_reducible repeat (first|apply Kd.N_alloc|apply Kd.N_drewN|apply Kd.N_drew));exact HO_3.out) hg hat);have n1_:=Aside0.mk (Kd.R_over' (by (with_reducible repeat (first|apply Kd.R_alloc|apply Kd.R_drewN|apply Kd.R_drew));exact HO_5.out) (Kd.N_typed (by (with_reducible repeat (first|apply Kd.N_alloc|apply Kd.N_drewN|apply Kd.N_drew));exact HO870.out)) (by decide) hg);have n2_:=Aside0.mk (hb);have n3_:=Aside0.mk (ho);clear HO_3 HO_5 HB HO870;have HO_3:=n0_;have HO_5:=n1_;have HB:=n2_;have HO873:=n3_;clear n0_ n1_ n2_ n3_;clear ho hb hg hat)|((with_reducible refine gate_builtin (b:=.append) (xs:=#[.tmp 76,.tmp 77]) rfl ?_);(try (refine gate_guard (by rfl) ?_;dsimp only));at_builtin;refine Kd.N_append_rows k34 (w0:=w) w.heap.size rfl (.tmp 76) (.tmp 77) 51 34 (.agg #[(.bool false),(.bool false),(.int .i64 0),(.int .i64 0),(.int .i64 0),(.slice none 0 0)]) 56 rfl Try.underlying51 info34 rfl (by decide) (by omega) v872 y871 t846 _ _ _ (fun k_=>some k_ ≠ (v853:Value).ownBlock) (fun k_=>((fun k_=>some k_ ≠ (v853:Value).ownBlock)) k_∧some k_ ≠ (v872:Value).ownBlock) rfl rfl ?aO ?aR (fun _ hk=>hk) ?aF ?aB ?aS ?aL ?_;(case aR=>exact (by skip;exact Kd.N_F (Kd.N_mono (ok':=(fun k_=>((fun k_=>some k_ ≠ (v853:Value).ownBlock)) k_∧some k_ ≠ (v872:Value).ownBlock)) (HO_3.out) (fun k_ hk=>⟨hk.1,hk.2⟩))));(case aB=>exact (by repeat (first|(with_reducible first|exact HB.out|apply below_alloc|apply pw_below_drewN|apply below_drew1)|exact HB.out)));(case aF=>exact (fun k_ hk=>Kd.fresh' (Kd.R_lt (by (with_reducible repeat (first|apply Kd.R_alloc|apply Kd.R_drewN|apply Kd.R_drew));exact HO_5.out)) k_ hk));(case aO=>exact (by (with_reducible repeat (first|apply Kd.N_alloc|apply Kd.N_drewN|apply Kd.N_drew));exact HO873.out));(case aS=>exact (below_size (by repeat (first|(with_reducible first|exact HB.out|apply below_alloc|apply pw_below_drewN|apply below_drew1)|exact HB.out))));(case aL=>have:=LMc45.out;omega);intro v875 w50 ho hb hg hat;rw [← Ny874.out] at ho;have n0_:=Aside0.mk (Kd.N_afterv (ok:=(fun k_=>some k_ ≠ (v853:Value).ownBlock)) (by (with_reducible repeat (first|apply Kd.N_alloc|apply Kd.N_drewN|apply Kd.N_drew));exact HO_3.out) hg hat);have n1_:=Aside0.mk (Kd.R_over' (by (with_reducible repeat (first|apply Kd.R_alloc|apply Kd.R_drewN|apply Kd.R_drew));exact HO_5.out) (Kd.N_typed (by (with_reducible repeat (first|apply Kd.N_alloc|apply Kd.N_drewN|apply Kd.N_drew));exact HO873.out)) (by decide) hg);have n2_:=Aside0.mk (hb);have n3_:=Aside0.mk (ho);clear HO_3 HO_5 HB HO873;have HO_3:=n0_;have HO_5:=n1_;have HB:=n2_;have HO876:=n3_;clear n0_ n1_ n2_ n3_;clear ho hb hg hat;obtain ⟨Ao51,co51,eo51⟩:=Kd.N_slice HO876.out;subst eo51)|(go_at_call 36;(with_reducible refine (impl_ProducersRun.calls k2 _ _ y874 t877 t878 _ ?side1 ?side2 A46.out).mono ?_);(case side1=>repeat (first|exact (Kd.N_reads' HO876.out).2.2|(with_reducible refine Kd.C_alloc ?_ _)|(with_reducible refine Kd.C_drewN ?_ _)|(with_reducible refine Kd.C_drew ?_)));(case side2=>exact (Kd.N_reads' HO876.out).2.1);rintro e w52 ⟨v879,v881,rfl,ho0,ho1,hb⟩;have n0_:=Aside0.mk (Kd.N_mono (Kd.N_told (Kd.N_told (Kd.N_old (by (with_reducible repeat (first|apply Kd.N_alloc|apply Kd.N_drewN|apply Kd.N_drew));exact HO_3.out) hb) (Kd.R_base ho0)) (Kd.R_base ho1)) (fun _ h_=>h_.1));have n1_:=Aside0.mk (Kd.R_elder' (by (with_reducible repeat (first|apply Kd.R_alloc|apply Kd.R_drewN|apply Kd.R_drew));exact HO_5.out) (Kd.R_base ho1) hb);have n2_:=Aside0.mk (Kd.N_mono (Kd.N_told (Kd.N_told (Kd.N_old (by (with_reducible repeat (first|apply Kd.N_alloc|apply Kd.N_drewN|apply Kd.N_drew));exact HO876.out) hb) (Kd.R_base ho0)) (Kd.R_base ho1)) (fun _ h_=>h_.1));have n3_:=Aside0.mk (Kd.R_lower ho0 (below_size (by repeat (first|(with_reducible first|exact HB.out|apply below_alloc|apply pw_below_drewN|apply below_drew1)|exact HB.out))));have n4_:=Aside0.mk (Kd.R_lower (Kd.R_new' ho1 (Kd.R_lt (by (with_reducible repeat (first|apply Kd.R_alloc|apply Kd.R_drewN|apply Kd.R_drew));exact HO_5.out))) (below_size (by repeat (first|(with_reducible first|exact HB.out|apply below_alloc|apply pw_below_drewN|apply below_drew1)|exact HB.out))));have n5_:=Aside0.mk (below_step (by repeat (first|(with_reducible first|exact HB.out|apply below_alloc|apply pw_below_drewN|apply below_drew1)|exact HB.out)) hb);clear HO_3 HO_5 HO876 HB;have HO_3:=n0_;have HO_5:=n1_;have HO876:=n2_;have HO880:=n3_;have HO882:=n4_;have HB:=n5_;clear n0_ n1_ n2_ n3_ n4_ n5_;(try clear hb);(try clear hb2);(try clear hk);(try clear hi);(try clear ho0);(try clear ho1))))
          go_loopg [11] k2 (fun kq v11 w'=>∃ (x11_3:Int),v11 = .int .i64 x11_3∧Aside0 (laws_FnRunTwice.l1 kq t846 t878 x11_3=some r)∧Aside0 (kq ≤ k2)∧Aside0 (Kd.N k34 34 w' w.heap.size (fun k_=>some k_ ≠ (v881:Value).ownBlock) (.slice Ao8 t846.length co8) t846)∧Aside0 (Kd.R (Kd.int .i64) 3 w' w.heap.size (fun _=>True) v881 t878)∧Aside0 (Below w.heap.size w w'))
          case atStart=>exact ⟨((t846.length:Int)),(by first|rfl|(simp;done)|(simp [*];done)),H',⟨Nat.le_refl _⟩,⟨by (with_reducible repeat (first|apply Kd.N_alloc|apply Kd.N_drewN|apply Kd.N_drew));exact Kd.N_mono HO_3.out (fun _ hk=>hk.2)⟩,⟨by (with_reducible repeat (first|apply Kd.R_alloc|apply Kd.R_drewN|apply Kd.R_drew));exact Kd.R_mono HO882.out (fun _ hk=>trivial)⟩,⟨by repeat (first|(with_reducible first|exact HB.out|apply below_alloc|apply pw_below_drewN|apply below_drew1)|exact HB.out)⟩⟩
          case round=>
           clear H'
           try clear c1
           try clear c2
           try clear c2b0
           try clear c2b1
           try clear p2
           try clear c3
           try clear c4
           try clear p6
           try clear c8
           try clear p8
           try clear q8
           try clear hx8
           try clear qi8
           try clear c12
           try clear c14
           try clear c15
           try clear c25
           try clear c27
           try clear c35
           try clear c35b0
           try clear c36
           try clear c36b0
           try clear c37
           try clear c37b0
           try clear c38
           try clear c38b0
           try clear c38b1
           try clear c39
           try clear c39b0
           try clear c39b1
           try clear c40
           try clear c40b0
           try clear c40b1
           try clear c44
           try clear c45
           try clear hx865_0
           try clear hx866_0
           try clear hx866_1
           try clear hx866_2
           try clear hx866_3
           try clear hx866_4
           try clear hx866_5
           try clear hx867_0
           try clear hx867_1
           try clear hx867_2
           try clear hx867_3
           try clear hx867_4
           try clear hx867_5
           try clear p2
           try clear p865
           try clear p866
           try clear p867
           try clear q865
           try clear q866
           try clear q867
           obtain ⟨x11_3,rfl,HA,HK3,HO_3,HO_10,HB⟩:=hrel
           cases gk with
           | zero=>exact absurd HA.out (by simp [laws_FnRunTwice.l1])
           | succ k3=>
            have H:=HA.out
            clear HA
            simp only [laws_FnRunTwice.l1] at H
            by_cases c53:x11_3 < (t878.length:Int)
            ·rw [if_pos c53] at H
             have c53b0:decide (x11_3 < (t878.length:Int))=true:=decide_eq_true c53
             clear c53
             by_cases c54 : 0 ≤ x11_3
             ·rw [if_pos c54] at H
              have c54b0:decide (0 ≤ x11_3)=true:=decide_eq_true c54
              clear c54
              by_cases c55:(rd t878 x11_3)=1
              ·rw [if_pos c55] at H
               have c55b0:((rd t878 x11_3) == 1)=true:=beq_iff_eq.mpr c55
               have c55b1:((rd t878 x11_3) != 1)=false:=bne_eq_false_iff_eq.mpr c55
               clear c55
               have H':=Aside0.mk H
               clear H
               obtain ⟨Ao56,co56,eo56⟩:=Kd.R_slice HO_10.out
               subst eo56
               have p883 : 0 ≤ (x11_3:Int):=of_decide_eq_true (by first|(with_reducible assumption)|assumption)
               have q883:x11_3 < (t878.length:Int):=of_decide_eq_true (by first|(with_reducible assumption)|assumption)
               obtain ⟨ad883,e883,hx883_0⟩:=Kd.at_int (Kd.R_reads' HO_10.out).2.2 x11_3 p883 q883
               cases e883
               replace p883:=eq_true p883
               replace q883:=eq_true q883
               go_wp2
               repeat (go_quiet (fail);try go_wp2)
               go_roundg k3
               case measure=>have:=HJ5.out;have:=HK2.out;have:=HK3.out;omega
               case rel=>exact ⟨(wrap64 (x11_3+1)),(by first|rfl|(simp;done)|(simp [*];done)),H',⟨by have:=HJ5.out;have:=HK2.out;have:=HK3.out;omega⟩,⟨by (with_reducible repeat (first|apply Kd.N_alloc|apply Kd.N_drewN|apply Kd.N_drew));exact HO_3.out⟩,⟨by (with_reducible repeat (first|apply Kd.R_alloc|apply Kd.R_drewN|apply Kd.R_drew));exact HO_10.out⟩,⟨by repeat (first|(with_reducible first|exact HB.out|apply below_alloc|apply pw_below_drewN|apply below_drew1)|exact HB.out)⟩⟩
              ·rw [if_neg c55] at H
               have c55b0:((rd t878 x11_3) == 1)=false:=beq_eq_false_iff_ne.mpr c55
               have c55b1:((rd t878 x11_3) != 1)=true:=bne_iff_ne.mpr c55
               obtain rfl:=Option.some.inj H
               obtain ⟨Ao57,co57,eo57⟩:=Kd.R_slice HO_10.out
               subst eo57
               have p883 : 0 ≤ (x11_3:Int):=of_decide_eq_true (by first|(with_reducible assumption)|assumption)
               have q883:x11_3 < (t878.length:Int):=of_decide_eq_true (by first|(with_reducible assumption)|assumption)
               obtain ⟨ad883,e883,hx883_0⟩:=Kd.at_int (Kd.R_reads' HO_10.out).2.2 x11_3 p883 q883
               cases e883
               replace p883:=eq_true p883
               replace q883:=eq_true q883
               go_wp2
               repeat (go_quiet (fail);try go_wp2)
               go_ret
               exact ⟨by first|rfl|(simp [errW_none,errW_some] <;> rfl)|(simp [*,errW_none,errW_some] <;> rfl),by repeat (first|(with_reducible first|exact HB.out|apply below_alloc|apply pw_below_drewN|apply below_drew1)|exact HB.out)⟩
             ·rw [if_neg c54] at H
              exact absurd H (by simp)
            ·rw [if_neg c53] at H
             have c53b0:decide (x11_3 < (t878.length:Int))=false:=decide_eq_false c53
             clear c53
             obtain rfl:=Option.some.inj H
             obtain ⟨Ao58,co58,eo58⟩:=Kd.R_slice HO_10.out
             subst eo58
             go_wp2
             repeat (go_quiet (fail);try go_wp2)
             go_ret
             exact ⟨by first|rfl|(simp [errW_none,errW_some] <;> rfl)|(simp [*,errW_none,errW_some] <;> rfl),by repeat (first|(with_reducible first|exact HB.out|apply below_alloc|apply pw_below_drewN|apply below_drew1)|exact HB.out)⟩
         ·rw [if_neg c45] at H
          exact absurd H (by simp)
        ·rw [if_neg c44] at H
         exact absurd H (by simp)
def laws_FnRunTwice.Pure:Prop:=∀ (l0:List Int),l0.length ≤ maxLen→l0.length * 1 ≤ 140737488351232→(∀ x ∈ l0,(Lit.int .u8 x).wf=true)→∃ k,laws_FnRunTwice.f k l0=some true
theorem laws_FnRunTwice.walk (P:laws_FnRunTwice.Pure) (a0:Option Addr) (len0 cap0:Nat) (z0:List Int) (w:World) (w0:(a0=none∧len0=0∧cap0=0∧z0 = [])∨∃ x,a0=some x∧len0 ≤ cap0∧cap0 ≤ maxLen∧z0.length=cap0∧(∀ i,i < z0.length→w.cell? (x.add i)=some (.int .u8 (z0.getD i 0)))∧∀ n ∈ z0,(Lit.int .u8 n).wf=true) (y0:len0 * 1 ≤ 140737488351232) :
  Calls Try.prog 15 #[.slice a0 len0 cap0] w fun e w'=>e = .returned (.bool true)∧Below w.heap.size w w':=by
 obtain ⟨l0,rfl,hr0,hm0,hw0,hc0⟩:=ReadsInt.ofRowC w0
 obtain ⟨k,h⟩:=P l0 hm0 y0 hw0
 refine (laws_FnRunTwice.calls k _ _ l0 true w (Kd.C_of_reads (d:=(0:Int)) (h1:=fun _=>rfl) hr0) hc0 h).mono ?_
 rintro e w' ⟨rfl,hd⟩
 exact ⟨rfl,hd⟩
end Go.Proofs.Ytkhmopmfbocokaa.T
namespace Go.Proofs.Ytkhmopmfbocokaa.Q
open Go.RowKit Go.Proofs.YtkhmopmfbocokaaW.PrintWords
set_option linter.unusedVariables false
set_option linter.unusedSimpArgs false
theorem ev_succ {α:Type} {g:Nat→Option α} {r : α} (h:Ev (fun k=>g (k+1)) r):Ev g r:=Ev.step (f:=fun k=>g (k+1)) (fun _=>rfl) h
theorem ev_of_all {α:Type} {g:Nat→Option α} {r : α} (h:∀ k,g k=some r):Ev g r:=⟨0,fun k _=>h k⟩
theorem ev_some {α:Type} (r : α):Ev (fun _=>some r) r:=ev_of_all fun _=>rfl
def Evs {α:Type} (g:Nat→Option α) (Q : α→Prop):Prop:=∃ r,Ev g r∧Q r
theorem Evs.of {α:Type} {g:Nat→Option α} {Q : α→Prop} {r : α} (h:Ev g r) (hq:Q r):Evs g Q:=⟨r,h,hq⟩
theorem Evs.done {α:Type} {Q : α→Prop} {r : α} (hq:Q r):Evs (fun _=>some r) Q:=⟨r,ev_some r,hq⟩
theorem Evs.mono {α:Type} {g:Nat→Option α} {Q Q' : α→Prop} (h:Evs g Q) (hq:∀ r,Q r→Q' r):Evs g Q':=by
 obtain ⟨r,h1,h2⟩:=h
 exact ⟨r,h1,hq r h2⟩
theorem Evs.succ {α:Type} {g:Nat→Option α} {Q : α→Prop} (h:Evs (fun k=>g (k+1)) Q):Evs g Q:=by
 obtain ⟨r,h1,h2⟩:=h
 exact ⟨r,ev_succ h1,h2⟩
theorem Evs.bind {α β:Type} {g:Nat→Option α} {f:Nat→α→Option β} {Q : α→Prop} {R : β→Prop} (h:Evs g Q) (k:∀ a,Q a→Evs (fun n=>f n a) R):Evs (fun n=>(g n).bind (f n)) R:=by
 obtain ⟨a,h1,h2⟩:=h
 obtain ⟨r,k1,k2⟩:=k a h2
 exact ⟨r,Ev.bind h1 k1,k2⟩
theorem bsome {α β:Type} (a : α) (f : α→Option β):(some a).bind f=f a:=Eq.trans (Option.bind_some a f) (Eq.refl _)
end Go.Proofs.Ytkhmopmfbocokaa.Q
namespace Go.Proofs.Ytkhmopmfbocokaa.Q
open Go.RowKit Go.Proofs.Ytkhmopmfbocokaa.T Go.Proofs.YtkhmopmfbocokaaW.PrintWords Go.Proofs.YtkhmopmfbocokaaW.PrintLast
set_option linter.unusedVariables false
set_option linter.unusedSimpArgs false
theorem wrap_id {x:Int} (h0 : -9223372036854775808 ≤ x) (h1:x < 9223372036854775808):wrap64 x=x:=by unfold wrap64;omega
theorem tmod_range {x n:Int} (h : 0 ≤ x) (hn : 1 ≤ n) : 0 ≤ Int.tmod x n∧Int.tmod x n < n:=by
 rw [Int.tmod_eq_emod_of_nonneg h]
 exact ⟨Int.emod_nonneg _ (by omega),Int.emod_lt_of_pos _ (by omega)⟩
theorem xor_nonneg {a b:Int} (h1 : 0 ≤ a) (h2:a < 4611686018427387904) (h3 : 0 ≤ b) (h4:b < 4611686018427387904) : 0 ≤ Go.bits .xor .i64 a b:=by
 obtain ⟨A,rfl⟩:=Int.eq_ofNat_of_zero_le h1
 obtain ⟨B,rfl⟩:=Int.eq_ofNat_of_zero_le h3
 have hx:A ^^^ B < 2 ^ 62:=Nat.xor_lt_two_pow (by omega) (by omega)
 have e1:(BitVec.ofInt 64 (A:Int)).toNat=A:=by
  rw [BitVec.ofInt_natCast,BitVec.toNat_ofNat];exact Nat.mod_eq_of_lt (by omega)
 have e2:(BitVec.ofInt 64 (B:Int)).toNat=B:=by
  rw [BitVec.ofInt_natCast,BitVec.toNat_ofNat];exact Nat.mod_eq_of_lt (by omega)
 show 0 ≤ IntKind.i64.wrap ((BitVec.ofInt 64 (A:Int) ^^^ BitVec.ofInt 64 (B:Int)).toNat:Int)
 rw [BitVec.toNat_xor,e1,e2]
 simp only [IntKind.wrap,IntKind.bits,IntKind.signed]
 simp
 omega
def Bytes (b:List Int):Prop:=∀ x ∈ b,0 ≤ x∧x ≤ 255
theorem rd_bytes {b:List Int} (h:Bytes b) (i:Int) : 0 ≤ rd b i∧rd b i ≤ 255:=by
 unfold rd
 rw [List.getD_eq_getElem?_getD]
 cases e:b[i.toNat]? with
 | none=>simp
 | some x=>exact h x (List.mem_of_getElem? e)
theorem pick_ev (b:List Int) (p n:Int) (hb:Bytes b) (hl:b.length ≤ 2000) (h0 : 0 ≤ p) (h1:p ≤ 1000000000) (hn : 1 ≤ n) :
  ∃ v,Ev (fun k=>spec_l6Rd_pick.f k b p n) (v,p+1)∧0 ≤ v∧v < n:=by
 have e1:wrap64 (p+1)=p+1:=wrap_id (by omega) (by omega)
 have e2:wrap64 (p+1 - 1)=p:=by rw [wrap_id (by omega) (by omega)];omega
 by_cases hz:b.length=0
 ·refine ⟨0,⟨1,fun k hk=>?_⟩,by omega,by omega⟩
  obtain ⟨k,rfl⟩:∃ m,k=m+1:=⟨k - 1,by omega⟩
  show spec_l6Rd_pick.f (k+1) b p n = _
  unfold spec_l6Rd_pick.f
  rw [if_neg (by omega),e1]
  simp [spec_l6Rd_pick.j0,hz]
 ·have hz' : (((b.length:Int) == 0)=true)=False:=by simp;intro h;simp [h] at hz
  by_cases hlt:p < (b.length:Int)
  ·obtain ⟨r0,r1⟩:=rd_bytes hb p
   have:=tmod_range (x:=rd b p) r0 hn
   refine ⟨Int.tmod (rd b p) n,⟨1,fun k hk=>?_⟩,this.1,this.2⟩
   obtain ⟨k,rfl⟩:∃ m,k=m+1:=⟨k - 1,by omega⟩
   show spec_l6Rd_pick.f (k+1) b p n = _
   unfold spec_l6Rd_pick.f
   rw [if_neg (by omega),e1]
   simp only [spec_l6Rd_pick.j0,e2,hz']
   rw [if_neg (by simp),if_pos hlt,if_pos h0,if_neg (by omega),wrap_id (by omega) (by omega)]
  ·obtain ⟨q0,q1⟩:=tmod_range (x:=p) (n:=(b.length:Int)) h0 (by omega)
   obtain ⟨r0,r1⟩:=rd_bytes hb (Int.tmod p (b.length:Int))
   have f1:wrap64 (p * 7)=p * 7:=wrap_id (by omega) (by omega)
   have f2:wrap64 (p * 7+3)=p * 7+3:=wrap_id (by omega) (by omega)
   obtain ⟨q2,q3⟩:=tmod_range (x:=p * 7+3) (n:=(b.length:Int)) (by omega) (by omega)
   obtain ⟨r2,r3⟩:=rd_bytes hb (Int.tmod (p * 7+3) (b.length:Int))
   have d0 : 0 ≤ Int.tdiv p (b.length:Int)∧Int.tdiv p (b.length:Int) ≤ p:=by
    rw [Int.tdiv_eq_ediv_of_nonneg h0]
    exact ⟨Int.ediv_nonneg h0 (by omega),Int.ediv_le_self _ h0⟩
   obtain ⟨x,hx⟩:∃ x,x=rd b (Int.tmod p (b.length:Int)):=⟨_,rfl⟩
   obtain ⟨y,hy⟩:∃ y,y=rd b (Int.tmod (p * 7+3) (b.length:Int)):=⟨_,rfl⟩
   obtain ⟨z,hz2⟩:∃ z,z=Int.tdiv p (b.length:Int):=⟨_,rfl⟩
   obtain ⟨s,hs⟩:∃ s,s=x * 131+y * 1117+p * 29+z * 53:=⟨_,rfl⟩
   rw [← hx] at r0 r1
   rw [← hy] at r2 r3
   rw [← hz2] at d0
   have s0 : 0 ≤ s∧s < 4611686018427387904:=by omega
   have t0 : 0 ≤ Int.tdiv s 64∧Int.tdiv s 64 ≤ s:=by
    rw [Int.tdiv_eq_ediv_of_nonneg s0.1]
    exact ⟨Int.ediv_nonneg s0.1 (by omega),Int.ediv_le_self _ s0.1⟩
   have w1:wrap64 x=x:=wrap_id (by omega) (by omega)
   have w2:wrap64 y=y:=wrap_id (by omega) (by omega)
   have w3:wrap64 z=z:=wrap_id (by omega) (by omega)
   have w4:wrap64 (x * 131)=x * 131:=wrap_id (by omega) (by omega)
   have w5:wrap64 (y * 1117)=y * 1117:=wrap_id (by omega) (by omega)
   have w6:wrap64 (p * 29)=p * 29:=wrap_id (by omega) (by omega)
   have w7:wrap64 (z * 53)=z * 53:=wrap_id (by omega) (by omega)
   have w8:wrap64 (x * 131+y * 1117)=x * 131+y * 1117:=wrap_id (by omega) (by omega)
   have w9:wrap64 (x * 131+y * 1117+p * 29)=x * 131+y * 1117+p * 29:=wrap_id (by omega) (by omega)
   have wa:wrap64 (x * 131+y * 1117+p * 29+z * 53)=s:=by rw [hs];exact wrap_id (by omega) (by omega)
   have wb:wrap64 (Int.tdiv s 64)=Int.tdiv s 64:=wrap_id (by omega) (by omega)
   have:=tmod_range (x:=Go.bits .xor .i64 s (Int.tdiv s 64)) (n:=n) (xor_nonneg s0.1 s0.2 t0.1 (by omega)) hn
   refine ⟨_,⟨1,fun k hk=>?_⟩,this.1,this.2⟩
   obtain ⟨k,rfl⟩:∃ m,k=m+1:=⟨k - 1,by omega⟩
   show spec_l6Rd_pick.f (k+1) b p n = _
   unfold spec_l6Rd_pick.f
   rw [if_neg (by omega),e1]
   simp only [spec_l6Rd_pick.j0,e2,hz',f1,f2]
   rw [if_neg (by simp),if_neg hlt,if_neg (by omega),if_pos q0,if_pos q1,if_pos q2,if_pos q3,if_neg (by omega),← hx,← hy,← hz2,w1,w2,w3,w4,w5,w6,w7,w8,w9,wa,wb]
theorem pick_evs (b:List Int) (p n:Int) (hb:Bytes b) (hl:b.length ≤ 2000) (h0 : 0 ≤ p) (h1:p ≤ 1000000000) (hn : 1 ≤ n) :
  Evs (fun k=>spec_l6Rd_pick.f k b p n) (fun r=>0 ≤ r.1∧r.1 < n∧r.2=p+1):=by
 obtain ⟨v,h,v0,v1⟩:=pick_ev b p n hb hl h0 h1 hn
 exact ⟨_,h,v0,v1,rfl⟩
end Go.Proofs.Ytkhmopmfbocokaa.Q
namespace Go.Proofs.Ytkhmopmfbocokaa.Q
open Go.RowKit Go.Proofs.Ytkhmopmfbocokaa.T Go.Proofs.YtkhmopmfbocokaaW.PrintWords Go.Proofs.YtkhmopmfbocokaaW.PrintLast
set_option linter.unusedVariables false
set_option linter.unusedSimpArgs false
theorem impl_within_eq (a b c:Int):impl_within.f a b c=some (decide (b ≤ a∧a ≤ c)):=by
 unfold impl_within.f
 by_cases h:a ≥ b
 ·rw [if_pos h]
  have:(b ≤ a∧a ≤ c)↔a ≤ c:=⟨fun h=>h.2,fun h'=>⟨h,h'⟩⟩
  simp [this]
 ·rw [if_neg h]
  have:¬ (b ≤ a∧a ≤ c):=fun h'=>h h'.1
  simp [this]
theorem spec_l6In_eq (a b c:Int):spec_l6In.f a b c=some (decide (b ≤ a∧a ≤ c)):=by
 unfold spec_l6In.f
 by_cases h:a ≥ b
 ·rw [if_pos h]
  have:(b ≤ a∧a ≤ c)↔a ≤ c:=⟨fun h=>h.2,fun h'=>⟨h,h'⟩⟩
  simp [this]
 ·rw [if_neg h]
  have:¬ (b ≤ a∧a ≤ c):=fun h'=>h h'.1
  simp [this]
end Go.Proofs.Ytkhmopmfbocokaa.Q
namespace Go.Proofs.Ytkhmopmfbocokaa.Q
set_option linter.unusedVariables false
set_option linter.unusedSimpArgs false
theorem pairwise_of_next {α:Type} {R : α→α→Prop} (tr:∀ a b c,R a b→R b c→R a c) {l:List α} (h:∀ j (h:j+1 < l.length),R (l[j]'(by omega)) l[j+1]):l.Pairwise R:=by
 rw [List.pairwise_iff_getElem]
 intro i j hi hj hij
 obtain ⟨d,rfl⟩:∃ d,j=i+1+d:=⟨j - i - 1,by omega⟩
 clear hij
 induction d with
 | zero=>exact h i (by omega)
 | succ d ih=>exact tr _ _ _ (ih (by omega)) (h (i+1+d) (by omega))
theorem next_of_pairwise {α:Type} {R : α→α→Prop} {l:List α} (h:l.Pairwise R) (j:Nat) (hj:j+1 < l.length):R (l[j]'(by omega)) l[j+1]:=
 List.pairwise_iff_getElem.1 h j (j+1) (by omega) hj (by omega)
end Go.Proofs.Ytkhmopmfbocokaa.Q
namespace Go.Proofs.Ytkhmopmfbocokaa.Q
open Go.RowKit Go.Proofs.Ytkhmopmfbocokaa.T Go.Proofs.YtkhmopmfbocokaaW.PrintWords Go.Proofs.YtkhmopmfbocokaaW.PrintLast
set_option linter.unusedVariables false
set_option linter.unusedSimpArgs false
abbrev Pr:=S39
abbrev rp (l:List Pr) (i:Int):Pr:=rd_T39 l i
theorem rp_nat (l:List Pr) (j:Nat) (h:j < l.length):rp l (j:Int)=l[j]:=by
 unfold rp rd_T39
 rw [Int.toNat_natCast,List.getD_eq_getElem?_getD,List.getElem?_eq_getElem h]
 rfl
theorem Pr_ext {a b:Pr} (h0:a.f0=b.f0) (h1:a.f1=b.f1) (h2:a.f2=b.f2):a=b:=by
 cases a
 cases b
 simp at h0 h1 h2
 rw [h0,h1,h2]
instance:DecidableEq Pr:=fun a b=>decidable_of_iff (a.f0=b.f0∧a.f1=b.f1∧a.f2=b.f2) ⟨fun h=>Pr_ext h.1 h.2.1 h.2.2,fun h=>by rw [h];exact ⟨rfl,rfl,rfl⟩⟩
theorem drop_atP {l:List Pr} {i:Nat} (h:i < l.length):l.drop i=rp l i :: l.drop (i+1):=by
 rw [List.drop_eq_getElem_cons h,rp_nat l i h]
def okP (t:Pr):Prop:=(0 ≤ t.f0∧t.f0 ≤ 254)∧(0 ≤ t.f1∧t.f1 ≤ 99)∧(0 ≤ t.f2∧t.f2 ≤ 99999)
def ltP (a b:Pr):Prop:=a.f0 < b.f0
def PF (l:List Pr) (i:Nat):Prop:=∀ j,i ≤ j→j < l.length→okP (rp l j)∧(0 < j→ltP (rp l ((j:Int) - 1)) (rp l j))
def VP (l:List Pr):Prop:=l.length ≤ 20∧PF l 0
open Classical in
noncomputable def vp (l:List Pr):Bool:=decide (VP l)
theorem vp_iff (l:List Pr):vp l=true↔VP l:=by unfold vp;simp
theorem prodsAll_vp (l:List Pr):prodsAll l=vp l:=by
 rw [Bool.eq_iff_iff,vp_iff]
 unfold prodsAll VP PF
 rw [Bool.and_eq_true,decide_eq_true_eq,decide_eq_true_eq]
 refine ⟨fun h=>⟨h.1,fun j _ hj=>?_⟩,fun h=>⟨h.1,fun j hj=>?_⟩⟩
 ·have:=h.2 j hj
  unfold prodAt at this
  rw [decide_eq_true_eq] at this
  exact this
 ·unfold prodAt
  rw [decide_eq_true_eq]
  exact h.2 j (Nat.zero_le _) hj
theorem implPValid (l:List Pr) (hl:l.length ≤ 1000000000000):Ev (fun k=>impl_ProducersValid.f k l) (vp l):=by
 unfold impl_ProducersValid.f
 rw [prodsAll_vp]
 exact ev_some _
theorem specPValid (l:List Pr) (hl:l.length ≤ 1000000000000):Ev (fun k=>spec_ProducersValid.f k l) (vp l):=by
 unfold spec_ProducersValid.f
 rw [prodsAll_vp]
 exact ev_some _
theorem ltP_trans {a b c:Pr} (h:ltP a b) (h' : ltP b c):ltP a c:=Int.lt_trans h h'
theorem VP_iff (l:List Pr):VP l↔l.length ≤ 20∧(∀ t ∈ l,okP t)∧l.Pairwise ltP:=by
 constructor
 ·rintro ⟨h8,hv⟩
  refine ⟨h8,?_,pairwise_of_next (R:=ltP) (fun _ _ _=>ltP_trans) ?_⟩
  ·intro t ht
   obtain ⟨j,hj,rfl⟩:=List.getElem_of_mem ht
   have:=(hv j (Nat.zero_le _) hj).1
   rwa [rp_nat l j hj] at this
  ·intro j hj
   have:=(hv (j+1) (Nat.zero_le _) hj).2 (by omega)
   rw [rp_nat l (j+1) hj] at this
   rw [show ((j+1:Nat):Int) - 1=(j:Int) by omega,rp_nat l j (by omega)] at this
   exact this
 ·rintro ⟨h8,hok,hp⟩
  refine ⟨h8,fun j _ hj=>⟨?_,fun h0=>?_⟩⟩
  ·rw [rp_nat l j hj]
   exact hok _ (List.getElem_mem hj)
  ·obtain ⟨i,rfl⟩:∃ i,j=i+1:=⟨j - 1,by omega⟩
   rw [rp_nat l (i+1) hj,show ((i+1:Nat):Int) - 1=(i:Int) by omega,rp_nat l i (by omega)]
   exact next_of_pairwise hp i hj
end Go.Proofs.Ytkhmopmfbocokaa.Q
namespace Go.Proofs.Ytkhmopmfbocokaa.Q
open Go.RowKit Go.Proofs.Ytkhmopmfbocokaa.T Go.Proofs.YtkhmopmfbocokaaW.PrintWords Go.Proofs.YtkhmopmfbocokaaW.PrintLast
set_option linter.unusedVariables false
set_option linter.unusedSimpArgs false
theorem rd_nat (l:List Int) (j:Nat) (h:j < l.length):rd l (j:Int)=l[j]:=by
 unfold rd
 rw [Int.toNat_natCast,List.getD_eq_getElem?_getD,List.getElem?_eq_getElem h]
 rfl
theorem drop_int {l:List Int} {i:Nat} (h:i < l.length):l.drop i=rd l i :: l.drop (i+1):=by
 rw [List.drop_eq_getElem_cons h,rd_nat l i h]
def ab (l:List Int):Bool:=decide (∀ x ∈ l,0 ≤ x∧x ≤ 255)
theorem ab_cons (x:Int) (l:List Int):ab (x :: l)=(decide (0 ≤ x∧x ≤ 255) && ab l):=by
 rw [Bool.eq_iff_iff]
 simp [ab,List.forall_mem_cons]
theorem ab_nil:ab []=true:=by simp [ab]
theorem isByte_eq (a:Int):impl_isByte.f a=some (decide (0 ≤ a∧a ≤ 255)):=by
 unfold impl_isByte.f
 by_cases h:a ≥ 0
 ·rw [if_pos h]
  have:(0 ≤ a∧a ≤ 255)↔a ≤ 255:=⟨fun h=>h.2,fun h'=>⟨h,h'⟩⟩
  simp [this]
 ·rw [if_neg h]
  have:¬ (0 ≤ a∧a ≤ 255):=fun h'=>h h'.1
  simp [this]
theorem baseValid_eq (a b:Int):impl_baseValid.f a b=some (decide ((0 ≤ a∧a ≤ 99999)∧(0 ≤ b∧b ≤ 99999))):=by
 unfold impl_baseValid.f
 rw [impl_within_eq,impl_within_eq]
 by_cases h : 0 ≤ a∧a ≤ 99999 <;> simp [h]
theorem idValid_eqB (a:Int):impl_idValid.f a=some (decide (0 ≤ a∧a ≤ 254)):=by
 unfold impl_idValid.f
 rw [impl_within_eq]
 rfl
theorem implAll_loop (l:List Int) (hl:l.length ≤ 1000000000000000):∀ (d i:Nat),l.length - i=d→i ≤ l.length→Ev (fun k=>impl_allBytes.l0 k l (l.length:Int) (i:Int)) (ab (l.drop i)):=by
 intro d
 induction d with
 | zero=>
  intro i hd hi
  rw [show l.drop i = [] from List.drop_eq_nil_of_le (by omega),ab_nil]
  refine ev_succ ?_
  simp only [impl_allBytes.l0,if_neg (show ¬ (i:Int) < (l.length:Int) by omega)]
  exact ev_some _
 | succ d ih=>
  intro i hd hi
  have e1:wrap64 ((i:Int)+1)=((i+1:Nat):Int):=by rw [wrap_id (by omega) (by omega)];omega
  rw [drop_int (show i < l.length by omega),ab_cons]
  refine ev_succ ?_
  simp only [impl_allBytes.l0,if_pos (show (i:Int) < (l.length:Int) by omega),if_pos (show (0:Int) ≤ i by omega),isByte_eq,bsome,decide_eq_true_eq,e1]
  by_cases h : 0 ≤ rd l (i:Int)∧rd l (i:Int) ≤ 255
  ·simp only [if_pos h,decide_eq_true h,Bool.true_and]
   exact ih (i+1) (by omega) (by omega)
  ·simp only [if_neg h,decide_eq_false h,Bool.false_and]
   exact ev_some _
theorem implAll (l:List Int) (hl:l.length ≤ 1000000000000000):Ev (fun k=>impl_allBytes.f k l) (ab l):=by
 unfold impl_allBytes.f
 have:=implAll_loop l hl l.length 0 (by omega) (by omega)
 simpa using this
theorem specAll_loop (l:List Int) (hl:l.length ≤ 1000000000000000):∀ (d i:Nat),l.length - i=d→i ≤ l.length→Ev (fun k=>spec_l1Ok.l0 k l (i:Int)) (ab (l.drop i)):=by
 intro d
 induction d with
 | zero=>
  intro i hd hi
  rw [show l.drop i = [] from List.drop_eq_nil_of_le (by omega),ab_nil]
  refine ev_succ ?_
  simp only [spec_l1Ok.l0,if_neg (show ¬ (i:Int) < (l.length:Int) by omega)]
  exact ev_some _
 | succ d ih=>
  intro i hd hi
  have e1:wrap64 ((i:Int)+1)=((i+1:Nat):Int):=by rw [wrap_id (by omega) (by omega)];omega
  rw [drop_int (show i < l.length by omega),ab_cons]
  refine ev_succ ?_
  simp only [spec_l1Ok.l0,if_pos (show (i:Int) < (l.length:Int) by omega),if_pos (show (0:Int) ≤ i by omega),spec_l6In_eq,bsome,decide_eq_true_eq,e1]
  by_cases h : 0 ≤ rd l (i:Int)∧rd l (i:Int) ≤ 255
  ·simp only [if_pos h,decide_eq_true h,Bool.true_and]
   exact ih (i+1) (by omega) (by omega)
  ·simp only [if_neg h,decide_eq_false h,Bool.false_and]
   exact ev_some _
theorem specAll (l:List Int) (hl:l.length ≤ 1000000000000000):Ev (fun k=>spec_l1Ok.f k l) (ab l):=by
 unfold spec_l1Ok.f
 have:=specAll_loop l hl l.length 0 (by omega) (by omega)
 simpa using this
def pv (has:Bool) (l:List Int):Bool:=if has=true then decide (l.length ≤ 12) && ab l else decide (l.length=0)
theorem implPart (has:Bool) (l:List Int) (hl:l.length ≤ 1000000000000000):Ev (fun k=>impl_partValid.f k has l) (pv has l):=by
 unfold impl_partValid.f pv
 cases has with
 | true=>
  simp only [if_true]
  by_cases h:(l.length:Int) ≤ 12
  ·simp only [if_pos h,decide_eq_true (show l.length ≤ 12 by omega),Bool.true_and]
   exact Ev.bind (implAll l hl) (ev_some _)
  ·simp only [if_neg h,decide_eq_false (show ¬ l.length ≤ 12 by omega),Bool.false_and]
   exact ev_some _
 | false=>
  simp only [Bool.false_eq_true,if_false]
  rw [show ((l.length:Int) == 0)=decide (l.length=0) by rw [Bool.eq_iff_iff];simp]
  exact ev_some _
theorem specPart (has:Bool) (l:List Int) (hl:l.length ≤ 1000000000000000):Ev (fun k=>spec_l3Part.f k has l) (pv has l):=by
 unfold spec_l3Part.f pv
 cases has with
 | true=>
  simp only [if_true]
  refine Ev.bind (specAll l hl) ?_
  by_cases h:ab l=true
  ·simp only [if_pos h,h,Bool.and_true]
   rw [show decide ((l.length:Int) ≤ 12)=decide (l.length ≤ 12) by rw [decide_eq_decide];omega]
   exact ev_some _
  ·simp only [if_neg h,show ab l=false by simpa using h,Bool.and_false]
   exact ev_some _
 | false=>
  simp only [Bool.false_eq_true,if_false]
  by_cases h:l.length=0
  ·simp only [if_pos (show (l.length:Int)=0 by omega),decide_eq_true h]
   refine Ev.bind (specAll l hl) ?_
   have hn:l = []:=List.length_eq_zero_iff.1 h
   subst hn
   simp only [ab_nil,if_true]
   exact ev_some _
  ·simp only [if_neg (show ¬ (l.length:Int)=0 by omega),decide_eq_false h]
   exact ev_some _
abbrev Rc:=S79
abbrev rr (l:List Rc) (i:Int):Rc:=rd_T79 l i
theorem rr_nat (l:List Rc) (j:Nat) (h:j < l.length):rr l (j:Int)=l[j]:=by
 unfold rr rd_T79
 rw [Int.toNat_natCast,List.getD_eq_getElem?_getD,List.getElem?_eq_getElem h]
 rfl
def smallR (r:Rc):Prop:=r.f3.length ≤ 1000000000000000∧r.f5.length ≤ 1000000000000000
def smallRs (l:List Rc):Prop:=l.length ≤ 1000000000000000∧∀ r ∈ l,smallR r
theorem smallRs_at {l:List Rc} (h:smallRs l) (j:Nat) (hj:j < l.length):smallR (rr l (j:Int)):=by
 rw [rr_nat l j hj]
 exact h.2 _ (List.getElem_mem hj)
def rv (r:Rc):Bool:=decide ((0 ≤ r.f0∧r.f0 ≤ 99999)∧(0 ≤ r.f1∧r.f1 ≤ 99999)) && (pv r.f2 r.f3 && pv r.f4 r.f5)
theorem implRec (r:Rc) (h:smallR r):Ev (fun k=>impl_RecordValid.f k r.f0 r.f1 r.f2 r.f3 r.f4 r.f5) (rv r):=by
 unfold impl_RecordValid.f rv
 simp only [baseValid_eq,bsome,decide_eq_true_eq]
 by_cases h0:(0 ≤ r.f0∧r.f0 ≤ 99999)∧(0 ≤ r.f1∧r.f1 ≤ 99999)
 ·simp only [if_pos h0,decide_eq_true h0,Bool.true_and]
  refine Ev.bind (implPart _ _ h.1) ?_
  by_cases h1:pv r.f2 r.f3=true
  ·simp only [if_pos h1,h1,Bool.true_and]
   exact Ev.bind (implPart _ _ h.2) (ev_some _)
  ·simp only [if_neg h1,show pv r.f2 r.f3=false by simpa using h1,Bool.false_and]
   exact ev_some _
 ·simp only [if_neg h0,decide_eq_false h0,Bool.false_and]
  exact ev_some _
theorem specRec (r:Rc) (h:smallR r):Ev (fun k=>spec_RecordValid.f k r.f0 r.f1 r.f2 r.f3 r.f4 r.f5) (rv r):=by
 unfold spec_RecordValid.f rv
 simp only [spec_l6In_eq,bsome,decide_eq_true_eq]
 by_cases h0 : 0 ≤ r.f0∧r.f0 ≤ 99999
 ·by_cases h1 : 0 ≤ r.f1∧r.f1 ≤ 99999
  ·simp only [if_pos h0,if_pos h1,decide_eq_true (show (0 ≤ r.f0∧r.f0 ≤ 99999)∧(0 ≤ r.f1∧r.f1 ≤ 99999) from ⟨h0,h1⟩),Bool.true_and]
   refine Ev.bind (specPart _ _ h.1) ?_
   by_cases h2:pv r.f2 r.f3=true
   ·simp only [if_pos h2,h2,Bool.true_and]
    exact Ev.bind (specPart _ _ h.2) (ev_some _)
   ·simp only [if_neg h2,show pv r.f2 r.f3=false by simpa using h2,Bool.false_and]
    exact ev_some _
  ·simp only [if_pos h0,if_neg h1,decide_eq_false (show ¬ ((0 ≤ r.f0∧r.f0 ≤ 99999)∧(0 ≤ r.f1∧r.f1 ≤ 99999)) from fun h=>h1 h.2),Bool.false_and]
   exact ev_some _
 ·simp only [if_neg h0,decide_eq_false (show ¬ ((0 ≤ r.f0∧r.f0 ≤ 99999)∧(0 ≤ r.f1∧r.f1 ≤ 99999)) from fun h=>h0 h.1),Bool.false_and]
  exact ev_some _
def RF (l:List Rc) (i:Nat):Prop:=∀ j,i ≤ j→j < l.length→rv (rr l j)=true∧(0 < j→(rr l ((j:Int) - 1)).f0 < (rr l j).f0)
theorem RF_end {l:List Rc} {i:Nat} (h:l.length ≤ i):RF l i:=fun j h1 h2=>by omega
theorem RF_step {l:List Rc} {i:Nat} (h:i < l.length):RF l i↔(rv (rr l i)=true∧(0 < i→(rr l ((i:Int) - 1)).f0 < (rr l i).f0))∧RF l (i+1):=by
 constructor
 ·intro hv
  exact ⟨hv i (Nat.le_refl _) h,fun j h1 h2=>hv j (by omega) h2⟩
 ·rintro ⟨h1,h2⟩ j h3 h4
  by_cases e:j=i
  ·subst e;exact h1
  ·exact h2 j (by omega) h4
theorem implRecs_loop (l:List Rc) (hl:smallRs l) (a0 a1:Bool) (a2 a3 a4:Int):∀ (d i:Nat),l.length - i=d→i ≤ l.length→Evs (fun k=>impl_BatchValid.l0 k l (l.length:Int) (i:Int) a0 a1 a2 a3 a4 l) (fun b=>b=true↔RF l i):=by
 intro d
 induction d with
 | zero=>
  intro i hd hi
  refine Evs.succ ?_
  simp only [impl_BatchValid.l0,if_neg (show ¬ (i:Int) < (l.length:Int) by omega)]
  exact Evs.done (by simp;exact RF_end (by omega))
 | succ d ih=>
  intro i hd hi
  have hll:=hl.1
  have hn:=ih (i+1) (by omega) (by omega)
  have e1:wrap64 ((i:Int)+1)=((i+1:Nat):Int):=by rw [wrap_id (by omega) (by omega)];omega
  have e2:wrap64 ((i:Int) - 1)=(i:Int) - 1:=wrap_id (by omega) (by omega)
  rw [RF_step (show i < l.length by omega)]
  refine Evs.succ ?_
  simp only [impl_BatchValid.l0,if_pos (show (i:Int) < (l.length:Int) by omega),if_pos (show (0:Int) ≤ i by omega),e1,e2]
  refine Evs.bind (Evs.of (implRec (rr l (i:Int)) (smallRs_at hl i (by omega))) rfl:Evs _ (fun x=>x=rv (rr l (i:Int)))) ?_
  rintro _ rfl
  by_cases h1:rv (rr l (i:Int))=true
  ·simp only [if_pos h1]
   by_cases h0:(i:Int) > 0
   ·simp only [if_pos h0,if_pos (show 0 ≤ (i:Int) - 1 by omega),if_pos (show (i:Int) - 1 < (l.length:Int) by omega)]
    by_cases h2:(rr l ((i:Int) - 1)).f0 ≥ (rr l (i:Int)).f0
    ·simp only [if_pos h2]
     refine Evs.done ?_
     simp only [Bool.false_eq_true,false_iff]
     rintro ⟨⟨_,h3⟩,_⟩
     have:=h3 (by omega)
     omega
    ·simp only [if_neg h2]
     refine hn.mono fun b hb=>?_
     rw [hb]
     exact ⟨fun h=>⟨⟨h1,fun _=>by omega⟩,h⟩,fun h=>h.2⟩
   ·simp only [if_neg h0]
    refine hn.mono fun b hb=>?_
    rw [hb]
    exact ⟨fun h=>⟨⟨h1,fun h'=>absurd h' (by omega)⟩,h⟩,fun h=>h.2⟩
  ·simp only [if_neg h1]
   exact Evs.done (by simp only [Bool.false_eq_true,false_iff];exact fun h=>h1 h.1.1)
theorem specRecs_loop (l:List Rc) (hl:smallRs l):∀ (d i:Nat),l.length - i=d→i ≤ l.length→Evs (fun k=>spec_l5Records.l0 k l (i:Int)) (fun b=>b=true↔RF l i∧1 ≤ l.length∧l.length ≤ 6):=by
 intro d
 induction d with
 | zero=>
  intro i hd hi
  refine Evs.succ ?_
  simp only [spec_l5Records.l0,if_neg (show ¬ (i:Int) < (l.length:Int) by omega),spec_l6In_eq,bsome]
  exact Evs.done (by simp only [decide_eq_true_eq];exact ⟨fun h=>⟨RF_end (by omega),by omega,by omega⟩,fun h=>by have:=h.2;omega⟩)
 | succ d ih=>
  intro i hd hi
  have hll:=hl.1
  have hn:=ih (i+1) (by omega) (by omega)
  have e1:wrap64 ((i:Int)+1)=((i+1:Nat):Int):=by rw [wrap_id (by omega) (by omega)];omega
  have e2:wrap64 ((i:Int) - 1)=(i:Int) - 1:=wrap_id (by omega) (by omega)
  rw [RF_step (show i < l.length by omega)]
  refine Evs.succ ?_
  simp only [spec_l5Records.l0,if_pos (show (i:Int) < (l.length:Int) by omega),if_pos (show (0:Int) ≤ i by omega),e1,e2]
  refine Evs.bind (Evs.of (specRec (rr l (i:Int)) (smallRs_at hl i (by omega))) rfl:Evs _ (fun x=>x=rv (rr l (i:Int)))) ?_
  rintro _ rfl
  by_cases h1:rv (rr l (i:Int))=true
  ·simp only [if_pos h1]
   by_cases h0:(i:Int) > 0
   ·simp only [if_pos h0,if_pos (show 0 ≤ (i:Int) - 1 by omega),if_pos (show (i:Int) - 1 < (l.length:Int) by omega)]
    by_cases h2:(rr l ((i:Int) - 1)).f0 ≥ (rr l (i:Int)).f0
    ·simp only [if_pos h2]
     refine Evs.done ?_
     simp only [Bool.false_eq_true,false_iff]
     rintro ⟨⟨⟨_,h3⟩,_⟩,_⟩
     have:=h3 (by omega)
     omega
    ·simp only [if_neg h2]
     refine hn.mono fun b hb=>?_
     rw [hb]
     exact ⟨fun h=>⟨⟨⟨h1,fun _=>by omega⟩,h.1⟩,h.2⟩,fun h=>⟨h.1.2,h.2⟩⟩
   ·simp only [if_neg h0]
    refine hn.mono fun b hb=>?_
    rw [hb]
    exact ⟨fun h=>⟨⟨⟨h1,fun h'=>absurd h' (by omega)⟩,h.1⟩,h.2⟩,fun h=>⟨h.1.2,h.2⟩⟩
  ·simp only [if_neg h1]
   exact Evs.done (by simp only [Bool.false_eq_true,false_iff];exact fun h=>h1 h.1.1.1)
def VB (a1:Bool) (a2 a3 a4:Int) (l:List Rc):Prop:=
 (if a2=255 then a3=0∧a4=0∧a1=false else (0 ≤ a2∧a2 ≤ 254)∧(0 ≤ a3∧a3 ≤ 99)∧(0 ≤ a4∧a4 ≤ 9999))∧(1 ≤ l.length∧l.length ≤ 6)∧(a1=true→l.length=1)∧RF l 0
theorem implB_j0 (a0 a1:Bool) (a2 a3 a4:Int) (l:List Rc) (hl:smallRs l):Evs (fun k=>impl_BatchValid.j0 k a0 a1 a2 a3 a4 l) (fun b=>b=true↔(1 ≤ l.length∧l.length ≤ 6)∧(a1=true→l.length=1)∧RF l 0):=by
 have hr:=implRecs_loop l hl a0 a1 a2 a3 a4 l.length 0 (by omega) (by omega)
 refine Evs.succ ?_
 simp only [impl_BatchValid.j0,impl_within_eq,bsome,decide_eq_true_eq]
 by_cases h : 1 ≤ (l.length:Int)∧(l.length:Int) ≤ 6
 ·simp only [if_pos h]
  cases a1 with
  | true=>
   simp only [if_true]
   refine Evs.succ ?_
   by_cases h1:l.length=1
   ·simp only [impl_BatchValid.j1,show ((l.length:Int) != 1)=false by rw [h1];rfl,Bool.false_eq_true,if_false]
    refine hr.mono fun b hb=>?_
    rw [hb]
    exact ⟨fun h2=>⟨by omega,fun _=>h1,h2⟩,fun h2=>h2.2.2⟩
   ·simp only [impl_BatchValid.j1,show ((l.length:Int) != 1)=true by simp;omega,if_true]
    exact Evs.done (by simp only [Bool.false_eq_true,false_iff];exact fun h2=>h1 (h2.2.1 trivial))
  | false=>
   simp only [Bool.false_eq_true,if_false]
   refine Evs.succ ?_
   simp only [impl_BatchValid.j1,Bool.false_eq_true,if_false]
   refine hr.mono fun b hb=>?_
   rw [hb]
   exact ⟨fun h2=>⟨by omega,(fun h3=>h3.elim),h2⟩,fun h2=>h2.2.2⟩
 ·simp only [if_neg h]
  refine Evs.succ ?_
  simp only [impl_BatchValid.j1,if_true]
  exact Evs.done (by simp only [Bool.false_eq_true,false_iff];exact fun h2=>h ⟨by have:=h2.1.1;omega,by have:=h2.1.2;omega⟩)
theorem implB_evs (a0 a1:Bool) (a2 a3 a4:Int) (l:List Rc) (hl:smallRs l):Evs (fun k=>impl_BatchValid.f k a0 a1 a2 a3 a4 l) (fun b=>b=true↔VB a1 a2 a3 a4 l):=by
 have hj:=implB_j0 a0 a1 a2 a3 a4 l hl
 unfold impl_BatchValid.f VB
 by_cases h:a2=255
 ·simp only [if_pos h]
  by_cases h3:a3=0
  ·simp only [if_pos h3]
   by_cases h4:a4=0
   ·simp only [if_pos h4]
    cases a1 with
    | true=>
     simp only [if_true]
     exact Evs.done (by simp)
    | false=>
     simp only [Bool.false_eq_true,if_false]
     refine hj.mono fun b hb=>?_
     rw [hb]
     exact ⟨fun h2=>⟨⟨h3,h4,trivial⟩,h2.1,(fun h5=>h5.elim),h2.2.2⟩,fun h2=>⟨h2.2.1,(fun h5=>by cases h5),h2.2.2.2⟩⟩
   ·simp only [if_neg h4]
    exact Evs.done (by simp only [Bool.false_eq_true,false_iff];exact fun h2=>h4 h2.1.2.1)
  ·simp only [if_neg h3]
   exact Evs.done (by simp only [Bool.false_eq_true,false_iff];exact fun h2=>h3 h2.1.1)
 ·simp only [if_neg h,idValid_eqB,impl_within_eq,bsome,decide_eq_true_eq]
  by_cases h2 : 0 ≤ a2∧a2 ≤ 254
  ·simp only [if_pos h2]
   by_cases h3 : 0 ≤ a3∧a3 ≤ 99
   ·simp only [if_pos h3]
    by_cases h4 : 0 ≤ a4∧a4 ≤ 9999
    ·simp only [if_pos h4]
     refine hj.mono fun b hb=>?_
     rw [hb]
     exact ⟨fun h5=>⟨⟨h2,h3,h4⟩,h5⟩,fun h5=>h5.2⟩
    ·simp only [if_neg h4]
     exact Evs.done (by simp only [Bool.false_eq_true,false_iff];exact fun h5=>h4 h5.1.2.2)
   ·simp only [if_neg h3]
    exact Evs.done (by simp only [Bool.false_eq_true,false_iff];exact fun h5=>h3 h5.1.2.1)
  ·simp only [if_neg h2]
   exact Evs.done (by simp only [Bool.false_eq_true,false_iff];exact fun h5=>h2 h5.1.1)
theorem specB_j0_true (a0 a1:Bool) (a2 a3 a4:Int) (l:List Rc):Evs (fun k=>spec_BatchValid.j0 k true a0 a1 a2 a3 a4 l) (fun b=>b=false):=by
 refine Evs.succ ?_
 simp only [spec_BatchValid.j0,if_true]
 exact Evs.done rfl
theorem specB_evs (a0 a1:Bool) (a2 a3 a4:Int) (l:List Rc) (hl:smallRs l):Evs (fun k=>spec_BatchValid.f k a0 a1 a2 a3 a4 l) (fun b=>b=true↔VB a1 a2 a3 a4 l):=by
 have hr:=specRecs_loop l hl l.length 0 (by omega) (by omega)
 have no:∀ {P:Prop},¬ P→∀ b:Bool,b=false→(b=true↔P):=fun hP b hb=>by rw [hb];simp only [Bool.false_eq_true,false_iff];exact hP
 unfold spec_BatchValid.f
 unfold spec_l5Records.f
 refine Evs.bind hr ?_
 intro t ht
 by_cases h:t=true
 ·obtain ⟨hRF,hl1⟩:=ht.1 h
  simp only [if_pos h,spec_l6In_eq,bsome,decide_eq_true_eq]
  by_cases h2 : 0 ≤ a2∧a2 ≤ 255
  ·simp only [if_pos h2]
   by_cases h3 : 0 ≤ a3∧a3 ≤ 99
   ·simp only [if_pos h3]
    by_cases h4 : 0 ≤ a4∧a4 ≤ 9999
    ·simp only [decide_eq_true h4,Bool.not_true]
     refine Evs.succ ?_
     simp only [spec_BatchValid.j0,Bool.false_eq_true,if_false]
     unfold VB
     by_cases h5:a2=255
     ·simp only [if_pos h5]
      by_cases h6:a3=0
      ·simp only [if_pos h6]
       by_cases h7:a4=0
       ·simp only [if_pos h7]
        refine Evs.done ?_
        cases a1
        ·simp;exact ⟨⟨h6,h7⟩,hl1,hRF⟩
        ·simp
       ·simp only [if_neg h7]
        exact Evs.done (no (fun h8=>h7 h8.1.2.1) _ rfl)
      ·simp only [if_neg h6]
       exact Evs.done (no (fun h8=>h6 h8.1.1) _ rfl)
     ·simp only [if_neg h5]
      cases a1 with
      | true=>
       simp only [if_true]
       refine Evs.done ?_
       simp only [beq_iff_eq]
       exact ⟨fun h8=>⟨⟨by omega,h3,h4⟩,hl1,fun _=>by omega,hRF⟩,fun h8=>by have:=h8.2.2.1 trivial;omega⟩
      | false=>
       simp only [Bool.false_eq_true,if_false]
       refine Evs.done ?_
       simp only [true_iff]
       exact ⟨⟨by omega,h3,h4⟩,hl1,(fun h8=>h8.elim),hRF⟩
    ·simp only [decide_eq_false h4,Bool.not_false]
     refine (specB_j0_true a0 a1 a2 a3 a4 l).mono (no ?_)
     unfold VB
     split
     ·rintro ⟨⟨_,h8,_⟩,_⟩
      exact h4 (by omega)
     ·exact fun h8=>h4 h8.1.2.2
   ·simp only [if_neg h3]
    refine (specB_j0_true a0 a1 a2 a3 a4 l).mono (no ?_)
    unfold VB
    split
    ·rintro ⟨⟨h8,_,_⟩,_⟩
     exact h3 (by omega)
    ·exact fun h8=>h3 h8.1.2.1
  ·simp only [if_neg h2]
   refine (specB_j0_true a0 a1 a2 a3 a4 l).mono (no ?_)
   unfold VB
   split
   ·rename_i h8
    exact fun _=>h2 (by omega)
   ·exact fun h8=>h2 (by have:=h8.1.1;omega)
 ·simp only [if_neg h]
  refine (specB_j0_true a0 a1 a2 a3 a4 l).mono (no ?_)
  exact fun h8=>h (ht.2 ⟨h8.2.2.2,h8.2.1⟩)
open Classical in
noncomputable def vb (a1:Bool) (a2 a3 a4:Int) (l:List Rc):Bool:=decide (VB a1 a2 a3 a4 l)
theorem vb_iff (a1:Bool) (a2 a3 a4:Int) (l:List Rc):vb a1 a2 a3 a4 l=true↔VB a1 a2 a3 a4 l:=by unfold vb;simp
theorem implB (a0 a1:Bool) (a2 a3 a4:Int) (l:List Rc) (hl:smallRs l):Ev (fun k=>impl_BatchValid.f k a0 a1 a2 a3 a4 l) (vb a1 a2 a3 a4 l):=by
 obtain ⟨b,hb,h⟩:=implB_evs a0 a1 a2 a3 a4 l hl
 rw [show vb a1 a2 a3 a4 l=b by rw [Bool.eq_iff_iff,vb_iff,h]]
 exact hb
theorem specB (a0 a1:Bool) (a2 a3 a4:Int) (l:List Rc) (hl:smallRs l):Ev (fun k=>spec_BatchValid.f k a0 a1 a2 a3 a4 l) (vb a1 a2 a3 a4 l):=by
 obtain ⟨b,hb,h⟩:=specB_evs a0 a1 a2 a3 a4 l hl
 rw [show vb a1 a2 a3 a4 l=b by rw [Bool.eq_iff_iff,vb_iff,h]]
 exact hb
end Go.Proofs.Ytkhmopmfbocokaa.Q
namespace Go.Proofs.Ytkhmopmfbocokaa.Q
open Go.RowKit Go.Proofs.Ytkhmopmfbocokaa.T Go.Proofs.YtkhmopmfbocokaaW.PrintWords Go.Proofs.YtkhmopmfbocokaaW.PrintLast
set_option linter.unusedVariables false
set_option linter.unusedSimpArgs false
theorem VP_mem {l:List Pr} (h:VP l):∀ t ∈ l,okP t:=((VP_iff l).1 h).2.1
theorem VP_sorted {l:List Pr} (h:VP l):l.Pairwise ltP:=((VP_iff l).1 h).2.2
theorem VP_ids {l:List Pr} (h:VP l):idsOk l=true:=by
 unfold idsOk
 rw [List.all_eq_true]
 intro t ht
 have:=(VP_mem h t ht).1
 simp
 omega
theorem VB_prod {a1:Bool} {a2 a3 a4:Int} {rs:List Rc} (h:VB a1 a2 a3 a4 rs) : 0 ≤ a2∧a2 ≤ 255:=by
 have:=h.1
 split at this
 ·omega
 ·omega
theorem prodOk_of {l:List Pr} (h:VP l) {a1:Bool} {a2 a3 a4:Int} {rs:List Rc} (hb:VB a1 a2 a3 a4 rs):prodOk l a2=true:=by
 have:=VB_prod hb
 unfold prodOk
 rw [VP_ids h]
 simp
 omega
def slotOf (t:Pr):SlotV:=⟨true,t.f0,t.f1,t.f2⟩
theorem fold_not:∀ (l:List Pr) (f:Nat→SlotV) (i:Nat),(∀ t ∈ l,t.f0.toNat ≠ i)→l.foldl slotPut f i=f i
 | [],f,i,h=>rfl
 | a :: l,f,i,h=>by
  rw [List.foldl_cons,fold_not l (slotPut f a) i (fun t ht=>h t (List.mem_cons_of_mem _ ht))]
  unfold slotPut
  rw [if_neg (fun e=>h a List.mem_cons_self e.symm)]
theorem fold_mem:∀ (l:List Pr) (f:Nat→SlotV),l.Pairwise ltP→(∀ t ∈ l,0 ≤ t.f0)→∀ t ∈ l,l.foldl slotPut f t.f0.toNat=slotOf t
 | [],f,hs,h0,t,ht=>by cases ht
 | a :: l,f,hs,h0,t,ht=>by
  rw [List.foldl_cons]
  rw [List.pairwise_cons] at hs
  rcases List.mem_cons.1 ht with rfl|ht
  ·rw [fold_not l _ _ (fun s hs'=>by
    have h1:=hs.1 s hs'
    have h2:=h0 s (List.mem_cons_of_mem _ hs')
    have h3:=h0 t List.mem_cons_self
    unfold ltP at h1
    omega)]
   unfold slotPut slotOf
   rw [if_pos rfl]
  ·exact fold_mem l _ hs.2 (fun s hs'=>h0 s (List.mem_cons_of_mem _ hs')) t ht
theorem slotFn_mem {l:List Pr} (h:VP l) (t:Pr) (ht:t ∈ l):slotFn l t.f0.toNat=slotOf t:=fold_mem l _ (VP_sorted h) (fun s hs=>(VP_mem h s hs).1.1) t ht
theorem slotFn_not {l:List Pr} (h:VP l) (i:Nat) (hi:∀ t ∈ l,t.f0 ≠ (i:Int)):slotFn l i=slot0:=by
 unfold slotFn
 rw [fold_not l _ i (fun t ht e=>hi t ht (by have:=(VP_mem h t ht).1.1;omega))]
def findP (l:List Pr) (p:Int):Option Pr:=l.find? (fun t=>t.f0 == p)
theorem findP_some {l:List Pr} {p:Int} {t:Pr} (h:findP l p=some t):t ∈ l∧t.f0=p:=by
 unfold findP at h
 exact ⟨List.mem_of_find?_eq_some h,by have:=List.find?_some h;simpa using this⟩
theorem findP_none {l:List Pr} {p:Int} (h:findP l p=none):∀ t ∈ l,t.f0 ≠ p:=by
 intro t ht
 have:=List.find?_eq_none.1 h t ht
 simpa using this
theorem findP_of {l:List Pr} (hs:l.Pairwise ltP) {t:Pr} (ht:t ∈ l):findP l t.f0=some t:=by
 cases h:findP l t.f0 with
 | none=>exact absurd rfl (findP_none h t ht)
 | some s=>
  obtain ⟨h1,h2⟩:=findP_some h
  obtain ⟨i,hi,rfl⟩:=List.getElem_of_mem h1
  obtain ⟨j,hj,rfl⟩:=List.getElem_of_mem ht
  have:i=j:=by
   rcases Nat.lt_trichotomy i j with h3|h3|h3
   ·have:=List.pairwise_iff_getElem.1 hs i j hi hj h3
    unfold ltP at this
    omega
   ·exact h3
   ·have:=List.pairwise_iff_getElem.1 hs j i hj hi h3
    unfold ltP at this
    omega
  subst this
  rfl
def codeP (l:List Pr) (p e s:Int):Int:=
 if p=255 then 4 else match findP l p with
  | some t=>if t.f1 > e then 3 else if t.f1=e then seqCode s t.f2 else seqCode s 0
  | none=>seqCode s 0
theorem codeAt_eq {l:List Pr} (h:VP l) (p e s:Int) (h0 : 0 ≤ p):codeAt (slotFn l) p e s=codeP l p e s:=by
 unfold codeAt codeP
 by_cases hp:p=255
 ·rw [if_pos hp,if_pos hp]
 ·rw [if_neg hp,if_neg hp]
  cases hf:findP l p with
  | none=>
   rw [slotFn_not h p.toNat (fun t ht=>by have:=findP_none hf t ht;omega)]
   rfl
  | some t=>
   obtain ⟨h1,h2⟩:=findP_some hf
   subst h2
   rw [slotFn_mem h t h1]
   rfl
theorem codeP_ne5 (l:List Pr) (p e s:Int):codeP l p e s ≠ 5:=by
 unfold codeP seqCode
 split
 ·omega
 ·split <;> repeat' (split <;> try omega)
noncomputable def pcode (l:List Pr) (a1:Bool) (a2 a3 a4:Int) (rs:List Rc):Int:=if vp l=true then (if vb a1 a2 a3 a4 rs=true then codeP l a2 a3 a4 else 5) else 5
def atP (l:List Pr) (x:Int):Int:=match l.findIdx? (fun t=>t.f0 == x) with
 | some i=>i
 | none=>-1
theorem atP_cases (l:List Pr) (x:Int):(atP l x = -1∧findP l x=none∧∀ j,j < l.length→(rp l (j:Int)).f0 ≠ x)∨∃ i:Nat,i < l.length∧atP l x=i∧findP l x=some (rp l (i:Int))∧(rp l (i:Int)).f0=x∧∀ j,j < i→(rp l (j:Int)).f0 ≠ x:=by
 unfold atP findP
 cases h:l.findIdx? (fun t=>t.f0 == x) with
 | none=>
  rw [List.findIdx?_eq_none_iff] at h
  refine .inl ⟨rfl,List.find?_eq_none.2 (fun t ht=>by have:=h t ht;simpa using this),fun j hj=>?_⟩
  have:=h l[j] (List.getElem_mem hj)
  rw [rp_nat l j hj]
  simpa using this
 | some i=>
  rw [List.findIdx?_eq_some_iff_getElem] at h
  obtain ⟨hi,h1,h2⟩:=h
  refine .inr ⟨i,hi,rfl,?_,?_,fun j hj=>?_⟩
  ·rw [rp_nat l i hi,List.find?_eq_some_iff_getElem]
   exact ⟨h1,i,hi,rfl,fun j hj=>by have:=h2 j hj;simpa using this⟩
  ·rw [rp_nat l i hi];simpa using h1
  ·rw [rp_nat l j (by omega)]
   have:=h2 j hj
   simpa using this
theorem specAtP_loop (l:List Pr) (x:Int) (hl:l.length ≤ 1000000000000):∀ (d i:Nat),l.length - i=d→i ≤ l.length→(∀ j,j < i→(rp l (j:Int)).f0 ≠ x)→Ev (fun k=>spec_l21At.l0 k l x (i:Int)) (atP l x):=by
 intro d
 induction d with
 | zero=>
  intro i hd hi hn
  refine ev_succ ?_
  simp only [spec_l21At.l0,if_neg (show ¬ (i:Int) < (l.length:Int) by omega)]
  rcases atP_cases l x with ⟨h,_⟩|⟨j,hj,h,_,h1,_⟩
  ·rw [h];exact ev_some _
  ·exact absurd h1 (hn j (by omega))
 | succ d ih=>
  intro i hd hi hn
  have e1:wrap64 ((i:Int)+1)=((i+1:Nat):Int):=by rw [wrap_id (by omega) (by omega)];omega
  refine ev_succ ?_
  by_cases h:(rp l (i:Int)).f0=x
  ·simp only [spec_l21At.l0,if_pos (show (i:Int) < (l.length:Int) by omega),if_pos (show (0:Int) ≤ i by omega),if_pos h]
   rcases atP_cases l x with ⟨_,_,h2⟩|⟨j,hj,h2,_,h3,h4⟩
   ·exact absurd h (h2 i (by omega))
   ·have:j=i:=by
     rcases Nat.lt_trichotomy j i with h5|h5|h5
     ·exact absurd h3 (hn j h5)
     ·exact h5
     ·exact absurd h (h4 i h5)
    rw [h2,this]
    exact ev_some _
  ·simp only [spec_l21At.l0,if_pos (show (i:Int) < (l.length:Int) by omega),if_pos (show (0:Int) ≤ i by omega),if_neg h,e1]
   refine ih (i+1) (by omega) (by omega) (fun j hj=>?_)
   by_cases e:j=i
   ·subst e;exact h
   ·exact hn j (by omega)
theorem specAtP (l:List Pr) (x:Int) (hl:l.length ≤ 1000000000000):Ev (fun k=>spec_l21At.f k l x) (atP l x):=by
 unfold spec_l21At.f
 exact specAtP_loop l x hl l.length 0 (by omega) (by omega) (fun j hj=>by omega)
theorem spec_seq (n:Int) (a0 a1:Bool) (a2 a3 a4:Int) (rs:List Rc):Ev (fun k=>spec_l21Check.j0 k n a0 a1 a2 a3 a4 rs) (seqCode a4 n):=by
 refine ev_succ ?_
 unfold seqCode
 simp only [spec_l21Check.j0]
 by_cases h:a4 < n
 ·simp only [if_pos h];exact ev_some _
 ·simp only [if_neg h]
  by_cases h2:a4 > n
  ·simp only [if_pos h2];exact ev_some _
  ·simp only [if_neg h2];exact ev_some _
theorem specCode (l:List Pr) (hl:l.length ≤ 1000000000000) (a0 a1:Bool) (a2 a3 a4:Int) (rs:List Rc):Ev (fun k=>spec_l21Check.f k l a0 a1 a2 a3 a4 rs) (codeP l a2 a3 a4):=by
 unfold spec_l21Check.f codeP
 by_cases hp:a2=255
 ·simp only [if_pos hp];exact ev_some _
 ·simp only [if_neg hp]
  refine Ev.bind (specAtP l a2 hl) ?_
  rcases atP_cases l a2 with ⟨h,hf,_⟩|⟨i,hi,h,hf,h1,_⟩
  ·rw [h,hf]
   simp only [if_neg (show ¬ ((-1:Int) ≥ 0) by omega)]
   exact spec_seq _ _ _ _ _ _ _
  ·rw [h,hf]
   simp only [if_pos (show (i:Int) ≥ 0 by omega),if_pos (show (0:Int) ≤ i by omega),if_pos (show (i:Int) < (l.length:Int) by omega)]
   by_cases h2:a3 < (rp l (i:Int)).f1
   ·simp only [if_pos h2,if_pos (show (rp l (i:Int)).f1 > a3 from h2)];exact ev_some _
   ·simp only [if_neg h2,if_neg (show ¬ (rp l (i:Int)).f1 > a3 from h2)]
    by_cases h3:a3=(rp l (i:Int)).f1
    ·simp only [if_pos h3,if_pos h3.symm]
     exact spec_seq _ _ _ _ _ _ _
    ·simp only [if_neg h3,if_neg (fun h4=>h3 (Eq.symm h4))]
     exact spec_seq _ _ _ _ _ _ _
theorem specCheck (l:List Pr) (hl:l.length ≤ 1000000000000) (a0 a1:Bool) (a2 a3 a4:Int) (rs:List Rc) (hr:smallRs rs):Ev (fun k=>spec_ProducersCheck.f k l a0 a1 a2 a3 a4 rs) (pcode l a1 a2 a3 a4 rs):=by
 unfold spec_ProducersCheck.f pcode
 refine Ev.bind (specPValid l hl) ?_
 by_cases h:vp l=true
 ·simp only [if_pos h]
  refine Ev.bind (specB a0 a1 a2 a3 a4 rs hr) ?_
  by_cases h2:vb a1 a2 a3 a4 rs=true
  ·simp only [if_pos h2]
   exact Ev.bind (specCode l hl a0 a1 a2 a3 a4 rs) (ev_some _)
  ·simp only [if_neg h2]
   exact ev_some _
 ·simp only [if_neg h]
  exact ev_some _
theorem seqCode_zero {s n:Int} (h:seqCode s n=0):s=n:=by
 unfold seqCode at h
 split at h
 ·omega
 ·split at h <;> omega
theorem pcode_cases (l:List Pr) (a1:Bool) (a2 a3 a4:Int) (rs:List Rc) (h:pcode l a1 a2 a3 a4 rs ≠ 5):VP l∧VB a1 a2 a3 a4 rs∧pcode l a1 a2 a3 a4 rs=codeP l a2 a3 a4:=by
 unfold pcode at h ⊢
 by_cases h1:vp l=true
 ·by_cases h2:vb a1 a2 a3 a4 rs=true
  ·rw [if_pos h1,if_pos h2]
   exact ⟨(vp_iff l).1 h1,(vb_iff _ _ _ _ _).1 h2,rfl⟩
  ·rw [if_pos h1,if_neg h2] at h
   exact absurd rfl h
 ·rw [if_neg h1] at h
  exact absurd rfl h
theorem pcode_of {l:List Pr} (h:VP l) {a1:Bool} {a2 a3 a4:Int} {rs:List Rc} (hb:VB a1 a2 a3 a4 rs):pcode l a1 a2 a3 a4 rs=codeP l a2 a3 a4:=by
 unfold pcode
 rw [if_pos ((vp_iff l).2 h),if_pos ((vb_iff _ _ _ _ _).2 hb)]
theorem sameP_loop (a:List Pr) (hs:a.length ≤ 1000000000000):∀ (d i:Nat),a.length - i=d→i ≤ a.length→Ev (fun k=>laws_sameProducers.l0 k a a (i:Int)) true:=by
 intro d
 induction d with
 | zero=>
  intro i hd hi
  refine ev_succ ?_
  simp only [laws_sameProducers.l0,if_neg (show ¬ (i:Int) < (a.length:Int) by omega)]
  exact ev_some _
 | succ d ih=>
  intro i hd hi
  have e1:wrap64 ((i:Int)+1)=((i+1:Nat):Int):=by rw [wrap_id (by omega) (by omega)];omega
  refine ev_succ ?_
  simp only [laws_sameProducers.l0,if_pos (show (i:Int) < (a.length:Int) by omega),if_pos (show (0:Int) ≤ i by omega),beq_self_eq_true,Bool.not_true,Bool.or_self,Bool.false_eq_true,if_false,e1]
  exact ih (i+1) (by omega) (by omega)
theorem sameP (a:List Pr) (hs:a.length ≤ 1000000000000):Ev (fun k=>laws_sameProducers.f k a a) true:=by
 unfold laws_sameProducers.f
 simp only [if_true]
 exact sameP_loop a hs a.length 0 (by omega) (by omega)
end Go.Proofs.Ytkhmopmfbocokaa.Q
namespace Go.Proofs.Ytkhmopmfbocokaa.Q
open Go.RowKit Go.Proofs.Ytkhmopmfbocokaa.T Go.Proofs.YtkhmopmfbocokaaW.PrintWords Go.Proofs.YtkhmopmfbocokaaW.PrintLast
set_option linter.unusedVariables false
set_option linter.unusedSimpArgs false
abbrev ltk (p:Int) (s:Pr):Bool:=decide (s.f0 < p)
abbrev gtk (p:Int) (s:Pr):Bool:=decide (s.f0 > p)
abbrev nek (p:Int) (s:Pr):Bool:=decide (s.f0 ≠ p)
def insP (l:List Pr) (t:Pr):List Pr:=l.filter (ltk t.f0) ++ t :: l.filter (gtk t.f0)
theorem insP_mem {l:List Pr} {t s:Pr} : s ∈ insP l t↔s=t∨(s ∈ l∧s.f0 ≠ t.f0):=by
 unfold insP
 simp only [List.mem_append,List.mem_cons,List.mem_filter,decide_eq_true_eq]
 constructor
 ·rintro (⟨h,h2⟩|h|⟨h,h2⟩)
  ·exact .inr ⟨h,by omega⟩
  ·exact .inl h
  ·exact .inr ⟨h,by omega⟩
 ·rintro (h|⟨h,h2⟩)
  ·exact .inr (.inl h)
  ·rcases Int.lt_or_gt_of_ne h2 with h3|h3
   ·exact .inl ⟨h,h3⟩
   ·exact .inr (.inr ⟨h,h3⟩)
theorem insP_sorted {l:List Pr} (h:l.Pairwise ltP) (t:Pr):(insP l t).Pairwise ltP:=by
 unfold insP
 rw [List.pairwise_append]
 refine ⟨h.filter _,?_,?_⟩
 ·rw [List.pairwise_cons]
  refine ⟨fun s hs=>?_,h.filter _⟩
  have:=(List.mem_filter.1 hs).2
  simp only [decide_eq_true_eq] at this
  exact this
 ·intro s hs u hu
  have h1:=(List.mem_filter.1 hs).2
  simp only [decide_eq_true_eq] at h1
  rcases List.mem_cons.1 hu with rfl|hu
  ·exact h1
  ·have h2:=(List.mem_filter.1 hu).2
   simp only [decide_eq_true_eq] at h2
   exact Int.lt_trans h1 h2
theorem insP_len (l:List Pr) (t:Pr):(insP l t).length ≤ l.length+l.length+1:=by
 unfold insP
 have h1:=List.length_filter_le (ltk t.f0) l
 have h2:=List.length_filter_le (gtk t.f0) l
 simp only [List.length_append,List.length_cons]
 omega
theorem sorted_at:∀ {l:List Pr},l.Pairwise ltP→∀ t ∈ l,l.filter (ltk (t.f0+1))=l.filter (ltk t.f0) ++ [t]
 | [],_,t,ht=>by cases ht
 | a :: l,h,t,ht=>by
  rw [List.pairwise_cons] at h
  rcases List.mem_cons.1 ht with rfl|ht
  ·rw [List.filter_cons_of_pos (by simp only [decide_eq_true_eq];omega),List.filter_cons_of_neg (by simp),List.filter_eq_nil_iff.2,List.filter_eq_nil_iff.2]
   ·rfl
   ·intro s hs
    have:=h.1 s hs
    unfold ltP at this
    simp only [decide_eq_true_eq]
    omega
   ·intro s hs
    have:=h.1 s hs
    unfold ltP at this
    simp only [decide_eq_true_eq]
    omega
  ·have h1:=h.1 t ht
   unfold ltP at h1
   rw [List.filter_cons_of_pos (by simp only [decide_eq_true_eq];omega),List.filter_cons_of_pos (by simp only [decide_eq_true_eq];omega),sorted_at h.2 t ht]
   rfl
theorem slotList_of {F:Nat→SlotV} {l:List Pr} (hs:l.Pairwise ltP) (h0:∀ t ∈ l,0 ≤ t.f0∧t.f0 < 255) (h1:∀ t ∈ l,F t.f0.toNat=slotOf t) (h2:∀ i:Nat,i < 255→(∀ t ∈ l,t.f0 ≠ (i:Int))→(F i).u=false) :
  ∀ n:Nat,n ≤ 255→slotList F n=l.filter (ltk (n:Int)):=by
 intro n
 induction n with
 | zero=>
  intro _
  rw [List.filter_eq_nil_iff.2]
  ·rfl
  ·intro t ht
   have:=h0 t ht
   simp only [decide_eq_true_eq]
   omega
 | succ n ih=>
  intro hn
  have ih:=ih (by omega)
  by_cases hex:∃ t ∈ l,t.f0=(n:Int)
  ·obtain ⟨t,ht,hk⟩:=hex
   have hf:=h1 t ht
   rw [hk,Int.toNat_natCast] at hf
   rw [slotList_yes F n (by rw [hf];rfl),ih,hf]
   have h3:=sorted_at hs t ht
   rw [hk] at h3
   rw [show ((n+1:Nat):Int)=(n:Int)+1 by omega,h3]
   rfl
  ·have hno:∀ t ∈ l,t.f0 ≠ (n:Int):=fun t ht hk=>hex ⟨t,ht,hk⟩
   rw [slotList_no F n (h2 n (by omega) hno),ih]
   refine List.filter_congr (fun t ht=>?_)
   have:=hno t ht
   rw [decide_eq_decide]
   omega
theorem slotList_all {F:Nat→SlotV} {l:List Pr} (hs:l.Pairwise ltP) (h0:∀ t ∈ l,0 ≤ t.f0∧t.f0 < 255) (h1:∀ t ∈ l,F t.f0.toNat=slotOf t) (h2:∀ i:Nat,i < 255→(∀ t ∈ l,t.f0 ≠ (i:Int))→(F i).u=false):slotList F 255=l:=by
 rw [slotList_of hs h0 h1 h2 255 (by omega),List.filter_eq_self]
 intro t ht
 have:=h0 t ht
 simp only [decide_eq_true_eq]
 omega
theorem slotList_back {l:List Pr} (h:VP l):slotList (slotFn l) 255=l:=
 slotList_all (VP_sorted h) (fun t ht=>by have:=(VP_mem h t ht).1;omega) (slotFn_mem h) (fun i _ hi=>by rw [slotFn_not h i hi];rfl)
theorem slotList_set {l:List Pr} (h:VP l) (p e n:Int) (h0 : 0 ≤ p) (h1:p < 255):slotList (slotSet (slotFn l) p e n) 255=insP l ⟨p,e,n⟩:=by
 refine slotList_all (insP_sorted (VP_sorted h) _) ?_ ?_ ?_
 ·intro s hs
  rcases insP_mem.1 hs with rfl|⟨hs,_⟩
  ·exact ⟨h0,h1⟩
  ·have:=(VP_mem h s hs).1
   omega
 ·intro s hs
  unfold slotSet
  rcases insP_mem.1 hs with rfl|⟨hs,hne⟩
  ·rw [if_pos rfl]
   rfl
  ·have:=(VP_mem h s hs).1
   dsimp only at hne
   rw [if_neg (by omega)]
   exact slotFn_mem h s hs
 ·intro i hi hno
  have hp:p ≠ (i:Int):=hno ⟨p,e,n⟩ (insP_mem.2 (.inl rfl))
  unfold slotSet
  rw [if_neg (by omega),slotFn_not h i (fun t ht=>by
   by_cases hk:t.f0=p
   ·omega
   ·exact hno t (insP_mem.2 (.inr ⟨ht,hk⟩)))]
  rfl
def insGo (t:Pr):List Pr→List Pr
 | []=>[t]
 | a :: r=>if a.f0 ≥ t.f0 then t :: (a :: r).filter (nek t.f0) else a :: insGo t r
theorem insGo_eq (t:Pr):∀ {l:List Pr},l.Pairwise ltP→insGo t l=insP l t
 | [],_=>rfl
 | a :: l,h=>by
  rw [List.pairwise_cons] at h
  unfold insGo insP
  by_cases ha:a.f0 ≥ t.f0
  ·have hnil:(a :: l).filter (ltk t.f0) = []:=by
    rw [List.filter_eq_nil_iff]
    intro s hs
    simp only [decide_eq_true_eq]
    rcases List.mem_cons.1 hs with rfl|hs
    ·omega
    ·have:=h.1 s hs
     unfold ltP at this
     omega
   rw [if_pos ha,hnil,List.nil_append]
   congr 1
   refine List.filter_congr (fun s hs=>?_)
   rw [decide_eq_decide]
   rcases List.mem_cons.1 hs with rfl|hs
   ·omega
   ·have:=h.1 s hs
    unfold ltP at this
    omega
  ·rw [if_neg ha,List.filter_cons_of_pos (by simp only [decide_eq_true_eq];omega),List.filter_cons_of_neg (by simp only [decide_eq_true_eq];omega),insGo_eq t h.2]
   rfl
theorem specPut_done (l:List Pr) (hl:l.length ≤ 1000000000) (p e n:Int):∀ (d i:Nat) (out:List Pr),l.length - i=d→i ≤ l.length→out.length ≤ i+1→Ev (fun k=>spec_l21Put.l0 k l out true (i:Int) p e n) (out ++ (l.drop i).filter (nek p)):=by
 intro d
 induction d with
 | zero=>
  intro i out hd hi ho
  refine ev_succ ?_
  rw [show l.drop i = [] from List.drop_eq_nil_of_le (by omega),List.filter_nil,List.append_nil]
  simp only [spec_l21Put.l0,if_neg (show ¬ (i:Int) < (l.length:Int) by omega),if_true]
  exact ev_some _
 | succ d ih=>
  intro i out hd hi ho
  have e1:wrap64 ((i:Int)+1)=((i+1:Nat):Int):=by rw [wrap_id (by omega) (by omega)];omega
  refine ev_succ ?_
  rw [drop_atP (show i < l.length by omega)]
  simp only [spec_l21Put.l0,if_pos (show (i:Int) < (l.length:Int) by omega),if_true]
  refine ev_succ ?_
  simp only [spec_l21Put.j1,Bool.false_eq_true,if_false,if_pos (show (i:Int) < (l.length:Int) by omega),if_pos (show (0:Int) ≤ i by omega),e1]
  by_cases h:(rp l (i:Int)).f0=p
  ·rw [List.filter_cons_of_neg (by simp only [decide_eq_true_eq];omega)]
   simp only [if_pos h]
   exact ih (i+1) out (by omega) (by omega) (by omega)
  ·rw [List.filter_cons_of_pos (by simp only [decide_eq_true_eq];exact h)]
   simp only [if_neg h,if_pos (show out.length < 5864062014805 by omega)]
   have:=ih (i+1) (out ++ [rp l (i:Int)]) (by omega) (by omega) (by simp;omega)
   rw [List.append_assoc] at this
   exact this
theorem specPut_go (l:List Pr) (hl:l.length ≤ 1000000000) (p e n:Int):∀ (d i:Nat) (out:List Pr),l.length - i=d→i ≤ l.length→out.length ≤ i→Ev (fun k=>spec_l21Put.l0 k l out false (i:Int) p e n) (out ++ insGo ⟨p,e,n⟩ (l.drop i)):=by
 intro d
 induction d with
 | zero=>
  intro i out hd hi ho
  refine ev_succ ?_
  rw [show l.drop i = [] from List.drop_eq_nil_of_le (by omega)]
  simp only [spec_l21Put.l0,if_neg (show ¬ (i:Int) < (l.length:Int) by omega),Bool.false_eq_true,if_false,if_pos (show out.length < 5864062014805 by omega)]
  exact ev_some _
 | succ d ih=>
  intro i out hd hi ho
  have e1:wrap64 ((i:Int)+1)=((i+1:Nat):Int):=by rw [wrap_id (by omega) (by omega)];omega
  refine ev_succ ?_
  rw [drop_atP (show i < l.length by omega)]
  unfold insGo
  simp only [spec_l21Put.l0,if_pos (show (i:Int) < (l.length:Int) by omega),Bool.false_eq_true,if_false,if_pos (show (0:Int) ≤ i by omega)]
  refine ev_succ ?_
  by_cases hge:(rp l (i:Int)).f0 ≥ p
  ·simp only [spec_l21Put.j1,decide_eq_true hge,if_true,if_pos hge,if_pos (show out.length < 5864062014805 by omega),bsome,if_pos (show (i:Int) < (l.length:Int) by omega),if_pos (show (0:Int) ≤ i by omega),e1]
   by_cases h:(rp l (i:Int)).f0=p
   ·rw [List.filter_cons_of_neg (by simp only [decide_eq_true_eq];omega)]
    simp only [if_pos h]
    have:=specPut_done l hl p e n d (i+1) (out ++ [⟨p,e,n⟩]) (by omega) (by omega) (by simp;omega)
    rw [List.append_assoc] at this
    exact this
   ·rw [List.filter_cons_of_pos (by simp only [decide_eq_true_eq];exact h)]
    simp only [if_neg h,if_pos (show (out ++ [(⟨p,e,n⟩:Pr)]).length < 5864062014805 by simp;omega)]
    have:=specPut_done l hl p e n d (i+1) (out ++ [⟨p,e,n⟩] ++ [rp l (i:Int)]) (by omega) (by omega) (by simp;omega)
    have h2:out ++ [(⟨p,e,n⟩:Pr)] ++ [rp l (i:Int)] ++ (l.drop (i+1)).filter (nek p)=out ++ (⟨p,e,n⟩:Pr) :: rp l (i:Int) :: (l.drop (i+1)).filter (nek p):=by simp
    rw [h2] at this
    exact this
  ·simp only [spec_l21Put.j1,decide_eq_false hge,Bool.false_eq_true,if_false,if_neg hge,if_pos (show (i:Int) < (l.length:Int) by omega),if_pos (show (0:Int) ≤ i by omega),if_neg (show ¬ (rp l (i:Int)).f0=p by omega),if_pos (show out.length < 5864062014805 by omega),e1]
   have:=ih (i+1) (out ++ [rp l (i:Int)]) (by omega) (by omega) (by simp;omega)
   rw [List.append_assoc] at this
   exact this
theorem specPutP (l:List Pr) (h:VP l) (p e n:Int):Ev (fun k=>spec_l21Put.f k l p e n) (insP l ⟨p,e,n⟩):=by
 unfold spec_l21Put.f
 have h20:=h.1
 have:=specPut_go l (by omega) p e n l.length 0 [] (by omega) (by omega) (by simp)
 rw [← insGo_eq _ (VP_sorted h)]
 simpa using this
abbrev newP (a2 a3 a4:Int) (rs:List Rc):Pr:=⟨a2,a3,wrap64 (a4+(rs.length:Int))⟩
noncomputable def pput (l:List Pr) (a1:Bool) (a2 a3 a4:Int) (rs:List Rc):List Pr × Int:=
 if pcode l a1 a2 a3 a4 rs=5 then ([],5) else if pcode l a1 a2 a3 a4 rs=0 then (if vp (insP l (newP a2 a3 a4 rs))=true then (insP l (newP a2 a3 a4 rs),0) else ([],5)) else (l,pcode l a1 a2 a3 a4 rs)
theorem codeP_zero {l:List Pr} {p e s:Int} (h:codeP l p e s=0):p ≠ 255:=by
 rintro rfl
 have h2:codeP l 255 e s=4:=by unfold codeP;rw [if_pos rfl]
 rw [h2] at h
 omega
theorem implPutB (l:List Pr) (hl:l.length ≤ 1000000000) (a0 a1:Bool) (a2 a3 a4:Int) (rs:List Rc) (hr:smallRs rs):Ev (fun k=>impl_ProducersPut.f k l a0 a1 a2 a3 a4 rs) (pput l a1 a2 a3 a4 rs):=by
 unfold impl_ProducersPut.f
 refine Ev.bind (implPValid l (by omega)) ?_
 by_cases h:vp l=true
 ·simp only [if_pos h]
  refine Ev.bind (implB a0 a1 a2 a3 a4 rs hr) ?_
  by_cases h2:vb a1 a2 a3 a4 rs=true
  ·have hV:=(vp_iff l).1 h
   have hB:=(vb_iff _ _ _ _ _).1 h2
   have hp:=VB_prod hB
   have hc:=codeAt_eq hV a2 a3 a4 hp.1
   have hpc:=pcode_of hV hB
   have h5:=codeP_ne5 l a2 a3 a4
   simp only [if_pos h2,if_pos (prodOk_of hV hB),hc]
   unfold pput
   rw [hpc,if_neg h5]
   unfold putSlots
   by_cases hz:codeP l a2 a3 a4=0
   ·have hne:=codeP_zero hz
    simp only [hc,if_pos hz,slotList_set hV a2 a3 _ hp.1 (by omega)]
    have h20:=hV.1
    have hln:=insP_len l (⟨a2,a3,wrap64 (a4+(rs.length:Int))⟩:Pr)
    refine Ev.bind (implPValid _ (by omega)) ?_
    by_cases hv:vp (insP l (newP a2 a3 a4 rs))=true
    ·simp only [if_pos hv,hz]
     exact ev_some _
    ·simp only [if_neg hv]
     exact ev_some _
   ·simp only [hc,if_neg hz,slotList_back hV]
    refine Ev.bind (implPValid l (by omega)) ?_
    simp only [if_pos h]
    exact ev_some _
  ·simp only [if_neg h2]
   have:pcode l a1 a2 a3 a4 rs=5:=by unfold pcode;rw [if_pos h,if_neg h2]
   unfold pput
   rw [if_pos this]
   exact ev_some _
 ·simp only [if_neg h]
  have:pcode l a1 a2 a3 a4 rs=5:=by unfold pcode;rw [if_neg h]
  unfold pput
  rw [if_pos this]
  exact ev_some _
theorem specPutB (l:List Pr) (hl:l.length ≤ 1000000000) (a0 a1:Bool) (a2 a3 a4:Int) (rs:List Rc) (hr:smallRs rs):Ev (fun k=>spec_ProducersPut.f k l a0 a1 a2 a3 a4 rs) (pput l a1 a2 a3 a4 rs):=by
 unfold spec_ProducersPut.f pput
 refine Ev.bind (specCheck l (by omega) a0 a1 a2 a3 a4 rs hr) ?_
 by_cases h5:pcode l a1 a2 a3 a4 rs=5
 ·simp only [if_pos h5]
  exact ev_some _
 ·obtain ⟨hV,hB,hpc⟩:=pcode_cases l a1 a2 a3 a4 rs h5
  have h:=(vp_iff l).2 hV
  simp only [if_neg h5,bsome,List.length_nil,List.nil_append,if_pos (show 0+l.length < 5864062014805 by omega)]
  by_cases hz:pcode l a1 a2 a3 a4 rs=0
  ·simp only [if_pos hz]
   refine Ev.bind (specPutP l hV a2 a3 _) ?_
   have h20:=hV.1
   have hln:=insP_len l (⟨a2,a3,wrap64 (a4+(rs.length:Int))⟩:Pr)
   refine Ev.bind (specPValid _ (by omega)) ?_
   by_cases hv:vp (insP l (newP a2 a3 a4 rs))=true
   ·simp only [if_pos hv,hz]
    exact ev_some _
   ·simp only [if_neg hv]
    exact ev_some _
  ·simp only [if_neg hz]
   refine Ev.bind (specPValid l (by omega)) ?_
   simp only [if_pos h]
   exact ev_some _
theorem pput_cases (l:List Pr) (a1:Bool) (a2 a3 a4:Int) (rs:List Rc):pput l a1 a2 a3 a4 rs=([],5) ∨
  (VP l∧VB a1 a2 a3 a4 rs∧codeP l a2 a3 a4=0∧VP (insP l (newP a2 a3 a4 rs))∧pput l a1 a2 a3 a4 rs=(insP l (newP a2 a3 a4 rs),0)) ∨
  (VP l∧VB a1 a2 a3 a4 rs∧codeP l a2 a3 a4 ≠ 0∧pput l a1 a2 a3 a4 rs=(l,codeP l a2 a3 a4)):=by
 unfold pput
 by_cases h5:pcode l a1 a2 a3 a4 rs=5
 ·rw [if_pos h5]
  exact .inl rfl
 ·obtain ⟨hV,hB,hpc⟩:=pcode_cases l a1 a2 a3 a4 rs h5
  rw [if_neg h5,hpc]
  by_cases hz:codeP l a2 a3 a4=0
  ·rw [if_pos hz]
   by_cases hv:vp (insP l (newP a2 a3 a4 rs))=true
   ·rw [if_pos hv]
    exact .inr (.inl ⟨hV,hB,hz,(vp_iff _).1 hv,rfl⟩)
   ·rw [if_neg hv]
    exact .inl rfl
  ·rw [if_neg hz]
   exact .inr (.inr ⟨hV,hB,hz,rfl⟩)
theorem findP_ins {l:List Pr} (h:l.Pairwise ltP) (t:Pr):findP (insP l t) t.f0=some t:=findP_of (insP_sorted h t) (insP_mem.2 (.inl rfl))
theorem newP_next {a1:Bool} {a2 a3 a4:Int} {rs:List Rc} (hB:VB a1 a2 a3 a4 rs):wrap64 (a4+(rs.length:Int))=a4+(rs.length:Int)∧a4 < a4+(rs.length:Int):=by
 obtain ⟨h1,h2,_⟩:=hB
 have : 0 ≤ a4∧a4 ≤ 9999:=by
  split at h1
  ·omega
  ·exact h1.2.2
 exact ⟨wrap_id (by omega) (by omega),by omega⟩
end Go.Proofs.Ytkhmopmfbocokaa.Q
namespace Go.Proofs.Ytkhmopmfbocokaa.Q
open Go.RowKit Go.Proofs.Ytkhmopmfbocokaa.T Go.Proofs.YtkhmopmfbocokaaW.PrintWords Go.Proofs.YtkhmopmfbocokaaW.PrintLast
set_option linter.unusedVariables false
set_option linter.unusedSimpArgs false
theorem bytes_of {l:List Int} (h:∀ x ∈ l,(Lit.int .u8 x).wf=true):Bytes l:=by
 intro x hx
 have:=h x hx
 simp [Lit.wf,IntKind.min,IntKind.max,IntKind.signed,IntKind.bits] at this
 omega
theorem open_ev (l:List Int) (h:Bytes l):∃ b,spec_l6Open.f l=some (b,0)∧Bytes b∧b.length ≤ 2000:=by
 unfold spec_l6Open.f
 by_cases hc:(l.length:Int) > 2000
 ·rw [if_pos hc,if_pos (by omega)]
  exact ⟨_,rfl,fun x hx=>h x (List.mem_of_mem_take hx),by rw [length_take];omega⟩
 ·rw [if_neg hc]
  exact ⟨_,rfl,h,by omega⟩
end Go.Proofs.Ytkhmopmfbocokaa.Q
namespace Go.Proofs.Ytkhmopmfbocokaa.Q
open Go.RowKit Go.Proofs.Ytkhmopmfbocokaa.T Go.Proofs.YtkhmopmfbocokaaW.PrintWords Go.Proofs.YtkhmopmfbocokaaW.PrintLast
set_option linter.unusedVariables false
set_option linter.unusedSimpArgs false
theorem lim2 {n c:Nat} (h:n ≤ 2000) (hc : 2000 < c):n < c:=by omega
theorem part_loop (bs:List Int) (hb:Bytes bs) (hl:bs.length ≤ 2000):∀ (d:Nat) (l:List Int) (n i p:Int),n - i ≤ d→0 ≤ i→(l.length:Int) ≤ i→(l.length:Int) ≤ 12→n ≤ 12→0 ≤ p→p+2 * d ≤ 900000000 →
  Evs (fun k=>spec_l91Part.l0 k l n i bs p) (fun r=>r.2.1.length ≤ 12∧p ≤ r.2.2∧r.2.2 ≤ p+2 * d):=by
 intro d
 induction d with
 | zero=>
  intro l n i p hd hi hll h12 hn h0 h1
  refine Evs.succ ?_
  simp only [spec_l91Part.l0,if_neg (show ¬ i < n by omega)]
  exact Evs.done ⟨by dsimp only;omega,by dsimp only;omega,by dsimp only;omega⟩
 | succ d ih=>
  intro l n i p hd hi hll h12 hn h0 h1
  refine Evs.succ ?_
  by_cases hlt:i < n
  ·have e1:wrap64 (i+1)=i+1:=wrap_id (by omega) (by omega)
   simp only [spec_l91Part.l0,if_pos hlt,bsome,e1]
   refine Evs.bind (pick_evs bs p 256 hb hl h0 (by omega) (by omega)) ?_
   rintro ⟨u,_⟩ ⟨u0,u1,rfl⟩
   refine Evs.bind (pick_evs bs (p+1) 4 hb hl (by omega) (by omega) (by omega)) ?_
   rintro ⟨v,_⟩ ⟨v0,v1,rfl⟩
   simp only [if_pos v0,if_pos (show v < (([1,2,3,u]:List Int).length:Int) from v1),if_pos (show l.length < 17592186044416 from lim2 (by omega) (by omega))]
   have h:=ih (l ++ [rd [1,2,3,u] v]) n (i+1) (p+1+1) (by omega) (by omega) (by simp;omega) (by simp;omega) hn (by omega) (by omega)
   exact h.mono (fun r hr=>⟨hr.1,by have:=hr.2.1;omega,by have:=hr.2.2;omega⟩)
  ·simp only [spec_l91Part.l0,if_neg hlt]
   exact Evs.done ⟨by dsimp only;omega,by dsimp only;omega,by dsimp only;omega⟩
theorem part_evs (bs:List Int) (hb:Bytes bs) (hl:bs.length ≤ 2000) (p:Int) (h0 : 0 ≤ p) (h1:p ≤ 800000000):Evs (fun k=>spec_l91Part.f k bs p) (fun r=>r.2.1.length ≤ 12∧p ≤ r.2.2∧r.2.2 ≤ p+30):=by
 unfold spec_l91Part.f
 refine Evs.bind (pick_evs bs p 4 hb hl h0 (by omega) (by omega)) ?_
 rintro ⟨u,_⟩ ⟨u0,u1,rfl⟩
 by_cases hu:u=0
 ·simp only [if_pos hu]
  exact Evs.done ⟨by simp,by dsimp only;omega,by dsimp only;omega⟩
 ·simp only [if_neg hu,bsome]
  refine Evs.bind (pick_evs bs (p+1) 5 hb hl (by omega) (by omega) (by omega)) ?_
  rintro ⟨v,_⟩ ⟨v0,v1,rfl⟩
  refine Evs.bind (pick_evs bs (p+1+1) 12 hb hl (by omega) (by omega) (by omega)) ?_
  rintro ⟨x,_⟩ ⟨x0,x1,rfl⟩
  by_cases hx:x=0
  ·simp only [if_pos hx]
   refine Evs.succ ?_
   simp only [spec_l91Part.j0]
   have h:=part_loop bs hb hl 12 [] 12 0 (p+1+1+1) (by omega) (by omega) (by simp) (by simp) (by omega) (by omega) (by omega)
   exact h.mono (fun r hr=>⟨hr.1,by have:=hr.2.1;omega,by have:=hr.2.2;omega⟩)
  ·simp only [if_neg hx]
   refine Evs.succ ?_
   simp only [spec_l91Part.j0]
   have h:=part_loop bs hb hl 12 [] v 0 (p+1+1+1) (by omega) (by omega) (by simp) (by simp) (by omega) (by omega) (by omega)
   exact h.mono (fun r hr=>⟨hr.1,by have:=hr.2.1;omega,by have:=hr.2.2;omega⟩)
def drawnR (n:Nat) (l:List Rc):Prop:=l.length ≤ n∧∀ r ∈ l,r.f3.length ≤ 12∧r.f5.length ≤ 12
theorem drawnR_small {n:Nat} (hn:n ≤ 100000) {l:List Rc} (h:drawnR n l):smallRs l:=⟨by have:=h.1;omega,fun r hr=>⟨by have:=(h.2 r hr).1;omega,by have:=(h.2 r hr).2;omega⟩⟩
theorem drawnR_add {n:Nat} {l:List Rc} (h:drawnR n l) {r:Rc} (h3:r.f3.length ≤ 12) (h5:r.f5.length ≤ 12):drawnR (n+1) (l ++ [r]):=by
 refine ⟨by have:=h.1;simp;omega,fun x hx=>?_⟩
 rcases List.mem_append.1 hx with hx|hx
 ·exact h.2 x hx
 ·rw [List.mem_singleton.1 hx]
  exact ⟨h3,h5⟩
theorem drawnR_mono {n m:Nat} {l:List Rc} (h:drawnR n l) (hm:n ≤ m):drawnR m l:=⟨by have:=h.1;omega,h.2⟩
theorem recs_loop (bs:List Int) (hb:Bytes bs) (hl:bs.length ≤ 2000) (n:Int) (hn:n ≤ 100):∀ (d:Nat) (o:Int) (l:List Rc) (t i p:Int),n - i ≤ d→0 ≤ i→drawnR i.toNat l→(0 < i→0 < l.length)→0 ≤ p→p+70 * d ≤ 700000000 →
  Evs (fun k=>spec_l91Records.l0 k o l n t i bs p) (fun r=>drawnR (max i n).toNat r.1∧(0 < max i n→0 < r.1.length)∧p ≤ r.2∧r.2 ≤ p+70 * d):=by
 intro d
 induction d with
 | zero=>
  intro o l t i p hd hi hll hpos h0 h1
  refine Evs.succ ?_
  simp only [spec_l91Records.l0,if_neg (show ¬ i < n by omega)]
  exact Evs.done ⟨by dsimp only;exact drawnR_mono hll (by omega),by dsimp only;intro h;exact hpos (by omega),by dsimp only;omega,by dsimp only;omega⟩
 | succ d ih=>
  intro o l t i p hd hi hll hpos h0 h1
  refine Evs.succ ?_
  by_cases hlt:i < n
  ·have e1:wrap64 (i+1)=i+1:=wrap_id (by omega) (by omega)
   have hlen:=hll.1
   simp only [spec_l91Records.l0,if_pos hlt]
   refine Evs.bind (part_evs bs hb hl p h0 (by omega)) ?_
   rintro ⟨kh,kl,p1⟩ ⟨hk,q0,q1⟩
   dsimp only at hk q0 q1 ⊢
   refine Evs.bind (part_evs bs hb hl p1 (by omega) (by omega)) ?_
   rintro ⟨vh,vl,p2⟩ ⟨hv,q2,q3⟩
   dsimp only at hv q2 q3 ⊢
   have main:∀ (c:Bool) (q:Int),0 ≤ q→p ≤ q→q ≤ p2+1→Evs (fun k=>spec_l91Records.j1 k o l n t i vh vl c bs q o t kh kl false) (fun r=>drawnR (max i n).toNat r.1∧(0 < max i n→0 < r.1.length)∧p ≤ r.2∧r.2 ≤ p+70 * (d+1:Nat)):=by
    intro c q hq0 hq1 hq2
    refine Evs.succ ?_
    have hlim:l.length < 1759218604441:=lim2 (by omega) (by omega)
    cases c with
    | true=>
     simp only [spec_l91Records.j1,if_true,if_pos hlim,e1]
     refine Evs.bind (pick_evs bs q 3 hb hl (by omega) (by omega) (by omega)) ?_
     rintro ⟨u,_⟩ ⟨u0,u1,rfl⟩
     refine Evs.bind (pick_evs bs (q+1) 5 hb hl (by omega) (by omega) (by omega)) ?_
     rintro ⟨v,_⟩ ⟨v0,v1,rfl⟩
     refine Evs.bind (pick_evs bs (q+1+1) 30 hb hl (by omega) (by omega) (by omega)) ?_
     rintro ⟨x,_⟩ ⟨x0,x1,rfl⟩
     have h:=ih (wrap64 (wrap64 (o+1)+wrap64 (Int.tdiv v 4))) (l ++ [⟨o,t,kh,[u],vh,vl⟩]) (mx (wrap64 (wrap64 (t+x) - 6)) 0) (i+1) (q+1+1+1) (by omega) (by omega) (drawnR_mono (drawnR_add hll (by simp) hv) (by omega)) (fun _=>by simp) (by omega) (by omega)
     rw [show max (i+1) n=max i n by omega] at h
     exact h.mono (fun r hr=>⟨hr.1,hr.2.1,by have:=hr.2.2.1;omega,by have:=hr.2.2.2;omega⟩)
    | false=>
     simp only [spec_l91Records.j1,Bool.false_eq_true,if_false,if_pos hlim,e1]
     refine Evs.bind (pick_evs bs q 5 hb hl (by omega) (by omega) (by omega)) ?_
     rintro ⟨v,_⟩ ⟨v0,v1,rfl⟩
     refine Evs.bind (pick_evs bs (q+1) 30 hb hl (by omega) (by omega) (by omega)) ?_
     rintro ⟨x,_⟩ ⟨x0,x1,rfl⟩
     have h:=ih (wrap64 (wrap64 (o+1)+wrap64 (Int.tdiv v 4))) (l ++ [⟨o,t,kh,kl,vh,vl⟩]) (mx (wrap64 (wrap64 (t+x) - 6)) 0) (i+1) (q+1+1) (by omega) (by omega) (drawnR_mono (drawnR_add hll hk hv) (by omega)) (fun _=>by simp) (by omega) (by omega)
     rw [show max (i+1) n=max i n by omega] at h
     exact h.mono (fun r hr=>⟨hr.1,hr.2.1,by have:=hr.2.2.1;omega,by have:=hr.2.2.2;omega⟩)
   by_cases hkh:kh=true
   ·simp only [if_pos hkh]
    refine Evs.bind (pick_evs bs p2 2 hb hl (by omega) (by omega) (by omega)) ?_
    rintro ⟨u,_⟩ ⟨u0,u1,rfl⟩
    exact main (u == 0) (p2+1) (by omega) (by omega) (by omega)
   ·simp only [if_neg hkh]
    exact main false p2 (by omega) (by omega) (by omega)
  ·simp only [spec_l91Records.l0,if_neg hlt]
   exact Evs.done ⟨by dsimp only;exact drawnR_mono hll (by omega),by dsimp only;intro h;exact hpos (by omega),by dsimp only;omega,by dsimp only;omega⟩
theorem recs_evs (bs:List Int) (hb:Bytes bs) (hl:bs.length ≤ 2000) (p o m:Int) (h0 : 0 ≤ p) (h1:p ≤ 600000000) (hm : 1 ≤ m) (hm2:m ≤ 10):Evs (fun k=>spec_l91Records.f k bs p o m) (fun r=>drawnR m.toNat r.1∧0 < r.1.length∧p ≤ r.2∧r.2 ≤ p+800):=by
 unfold spec_l91Records.f
 refine Evs.bind (pick_evs bs p m hb hl h0 (by omega) hm) ?_
 rintro ⟨u,_⟩ ⟨u0,u1,rfl⟩
 refine Evs.bind (pick_evs bs (p+1) 200 hb hl (by omega) (by omega) (by omega)) ?_
 rintro ⟨v,_⟩ ⟨v0,v1,rfl⟩
 simp only [show wrap64 (1+u)=1+u from wrap_id (by omega) (by omega)]
 have h:=recs_loop bs hb hl (1+u) (by omega) 10 o [] v 0 (p+1+1) (by omega) (by omega) ⟨by simp,fun r hr=>by cases hr⟩ (fun h=>by omega) (by omega) (by omega)
 exact h.mono (fun r hr=>⟨drawnR_mono hr.1 (by omega),hr.2.1 (by omega),by have:=hr.2.2.1;omega,by have:=hr.2.2.2;omega⟩)
def drawnB (p:Int) (c:Int) (r:Bool × Bool × Int × Int × Int × List Rc × Int):Prop:=drawnR 5 r.2.2.2.2.2.1∧0 < r.2.2.2.2.2.1.length∧p ≤ r.2.2.2.2.2.2∧r.2.2.2.2.2.2 ≤ p+c∧0 ≤ r.2.2.1
theorem batch_j0 (bs:List Int) (hb:Bytes bs) (hl:bs.length ≤ 2000) (p:Int) (h0 : 0 ≤ p) (h1:p ≤ 600000000) (a0 a1:Bool) (a2 a3 a4:Int) (l:List Rc) (hd:drawnR 4 l) (hpos : 0 < l.length) (ha2 : 0 ≤ a2):Evs (fun k=>spec_l91Batch.j0 k bs p a0 a1 a2 a3 a4 l) (drawnB p 2):=by
 have hlen:=hd.1
 refine Evs.succ ?_
 simp only [spec_l91Batch.j0]
 refine Evs.bind (pick_evs bs p 40 hb hl h0 (by omega) (by omega)) ?_
 rintro ⟨u,_⟩ ⟨u0,u1,rfl⟩
 by_cases hu:u=0
 ·simp only [if_pos hu,bsome]
  refine Evs.bind (pick_evs bs (p+1) 3 hb hl (by omega) (by omega) (by omega)) ?_
  rintro ⟨v,_⟩ ⟨v0,v1,rfl⟩
  simp only [if_pos v0,if_pos (show v < (([(-1),1,100]:List Int).length:Int) from v1)]
  exact Evs.done ⟨drawnR_mono hd (by omega),hpos,by dsimp only;omega,by dsimp only;omega,ha2⟩
 ·simp only [if_neg hu]
  by_cases hu1:u=1
  ·simp only [if_pos hu1,if_pos (show 0 < (l.length:Int) by omega),if_pos (show l.length < 1759218604441 from lim2 (by omega) (by omega))]
   have h0m:rd_T79 l 0 ∈ l:=by
    show rr l ((0:Nat):Int) ∈ l
    rw [rr_nat l 0 hpos]
    exact List.getElem_mem hpos
   exact Evs.done ⟨drawnR_add hd (hd.2 _ h0m).1 (hd.2 _ h0m).2,by simp,by dsimp only;omega,by dsimp only;omega,ha2⟩
  ·simp only [if_neg hu1]
   by_cases hu2:u=2
   ·simp only [if_pos hu2]
    exact Evs.done ⟨drawnR_mono hd (by omega),hpos,by dsimp only;omega,by dsimp only;omega,ha2⟩
   ·simp only [if_neg hu2]
    exact Evs.done ⟨drawnR_mono hd (by omega),hpos,by dsimp only;omega,by dsimp only;omega,ha2⟩
theorem drawnB_mono {p q c c' : Int} {r:Bool × Bool × Int × Int × Int × List Rc × Int} (h:drawnB p c r) (h1:q ≤ p) (h2:p+c ≤ q+c'):drawnB q c' r:=⟨h.1,h.2.1,by have:=h.2.2.1;omega,by have:=h.2.2.2.1;omega,h.2.2.2.2⟩
theorem batch_evs (bs:List Int) (hb:Bytes bs) (hl:bs.length ≤ 2000) (p o:Int) (h0 : 0 ≤ p) (h1:p ≤ 500000000):Evs (fun k=>spec_l91Batch.f k bs p o) (drawnB p 900):=by
 unfold spec_l91Batch.f
 refine Evs.bind (pick_evs bs p 2 hb hl h0 (by omega) (by omega)) ?_
 rintro ⟨u,_⟩ ⟨u0,u1,rfl⟩
 refine Evs.bind (recs_evs bs hb hl (p+1) o 4 (by omega) (by omega) (by omega) (by omega)) ?_
 rintro ⟨l,q⟩ ⟨hd,hpos,q0,q1⟩
 dsimp only at hd hpos q0 q1 ⊢
 refine Evs.bind (pick_evs bs q 3 hb hl (by omega) (by omega) (by omega)) ?_
 rintro ⟨v,_⟩ ⟨v0,v1,rfl⟩
 by_cases hv:v=0
 ·simp only [if_pos hv]
  refine Evs.bind (pick_evs bs (q+1) 3 hb hl (by omega) (by omega) (by omega)) ?_
  rintro ⟨x,_⟩ ⟨x0,x1,rfl⟩
  refine Evs.bind (pick_evs bs (q+1+1) 3 hb hl (by omega) (by omega) (by omega)) ?_
  rintro ⟨y,_⟩ ⟨y0,y1,rfl⟩
  refine Evs.bind (pick_evs bs (q+1+1+1) 5 hb hl (by omega) (by omega) (by omega)) ?_
  rintro ⟨z,_⟩ ⟨z0,z1,rfl⟩
  refine Evs.bind (pick_evs bs (q+1+1+1+1) 3 hb hl (by omega) (by omega) (by omega)) ?_
  rintro ⟨s,_⟩ ⟨s0,s1,rfl⟩
  by_cases hs:s=0
  ·simp only [if_pos hs]
   refine Evs.bind (pick_evs bs (q+1+1+1+1+1) 200 hb hl (by omega) (by omega) (by omega)) ?_
   rintro ⟨t,_⟩ ⟨t0,t1,rfl⟩
   refine Evs.bind (pick_evs bs (q+1+1+1+1+1+1) 2 hb hl (by omega) (by omega) (by omega)) ?_
   rintro ⟨e,_⟩ ⟨e0,e1,rfl⟩
   refine (batch_j0 bs hb hl _ (by omega) (by omega) _ _ _ _ _ _ ⟨by simp,fun r hr=>?_⟩ (by simp) x0).mono (fun r hr=>drawnB_mono hr (by omega) (by omega))
   rw [List.mem_singleton.1 hr]
   exact ⟨by simp,by simp⟩
  ·simp only [if_neg hs]
   exact (batch_j0 bs hb hl _ (by omega) (by omega) _ _ _ _ _ _ hd hpos (by omega)).mono (fun r hr=>drawnB_mono hr (by omega) (by omega))
 ·simp only [if_neg hv]
  exact (batch_j0 bs hb hl _ (by omega) (by omega) _ _ _ _ _ _ hd hpos (by omega)).mono (fun r hr=>drawnB_mono hr (by omega) (by omega))
end Go.Proofs.Ytkhmopmfbocokaa.Q
namespace Go.Proofs.Ytkhmopmfbocokaa.Q
open Go.RowKit Go.Proofs.Ytkhmopmfbocokaa.T Go.Proofs.YtkhmopmfbocokaaW.PrintWords Go.Proofs.YtkhmopmfbocokaaW.PrintLast
set_option linter.unusedVariables false
set_option linter.unusedSimpArgs false
abbrev Bt:=S34
abbrev rb (l:List Bt) (i:Int):Bt:=rd_T34 l i
theorem rb_nat (l:List Bt) (j:Nat) (h:j < l.length):rb l (j:Int)=l[j]:=by
 unfold rb rd_T34
 rw [Int.toNat_natCast,List.getD_eq_getElem?_getD,List.getElem?_eq_getElem h]
 rfl
theorem drop_atB {l:List Bt} {i:Nat} (h:i < l.length):l.drop i=rb l i :: l.drop (i+1):=by
 rw [List.drop_eq_getElem_cons h,rb_nat l i h]
noncomputable def stepB (now:List Pr) (b:Bt):List Pr × Int:=pput now b.f1 b.f2 b.f3 b.f4 b.f5
noncomputable def nextB (now:List Pr) (b:Bt):List Pr:=if (stepB now b).2=5 then now else (stepB now b).1
noncomputable def fin:List Bt→List Pr→List Pr
 | [],now=>now
 | b :: r,now=>fin r (nextB now b)
noncomputable def cds:List Bt→List Pr→List Int
 | [],_=>[]
 | b :: r,now=>(stepB now b).2 :: cds r (nextB now b)
theorem cds_len:∀ (l:List Bt) (now:List Pr),(cds l now).length=l.length
 | [],_=>rfl
 | b :: r,now=>by simp [cds,cds_len r]
theorem cds_append:∀ (l m:List Bt) (now:List Pr),cds (l ++ m) now=cds l now ++ cds m (fin l now)
 | [],m,now=>rfl
 | b :: r,m,now=>by simp [cds,fin,cds_append r m]
theorem VP_nil:VP ([]:List Pr):=⟨by simp,fun j _ h=>by simp at h⟩
theorem nextB_valid {now:List Pr} (h:VP now) (b:Bt):VP (nextB now b):=by
 unfold nextB stepB
 rcases pput_cases now b.f1 b.f2 b.f3 b.f4 b.f5 with hp|⟨_,_,_,h2,hp⟩|⟨_,_,_,hp⟩
 ·rw [hp,if_pos rfl];exact h
 ·rw [hp,if_neg (show ¬ (0:Int)=5 by decide)];exact h2
 ·rw [hp]
  split
  ·exact h
  ·exact h
theorem fin_valid:∀ (l:List Bt) {now:List Pr},VP now→VP (fin l now)
 | [],now,h=>h
 | b :: r,now,h=>fin_valid r (nextB_valid h b)
def smallBs (l:List Bt):Prop:=l.length ≤ 1000000∧∀ b ∈ l,smallRs b.f5
theorem smallBs_at {l:List Bt} (h:smallBs l) (j:Nat) (hj:j < l.length):smallRs (rb l (j:Int)).f5:=by
 rw [rb_nat l j hj]
 exact h.2 _ (List.getElem_mem hj)
theorem implRun_loop (l:List Bt) (hl:smallBs l):∀ (d i:Nat) (now:List Pr) (codes:List Int),l.length - i=d→i ≤ l.length→VP now→codes.length ≤ i→Ev (fun k=>impl_ProducersRun.l0 k now codes l (l.length:Int) (i:Int)) (fin (l.drop i) now,codes ++ cds (l.drop i) now):=by
 intro d
 induction d with
 | zero=>
  intro i now codes hd hi hV hc
  rw [show l.drop i = [] from List.drop_eq_nil_of_le (by omega)]
  refine ev_succ ?_
  simp only [impl_ProducersRun.l0,if_neg (show ¬ (i:Int) < (l.length:Int) by omega),fin,cds,List.append_nil]
  exact ev_some _
 | succ d ih=>
  intro i now codes hd hi hV hc
  have hll:=hl.1
  have e1:wrap64 ((i:Int)+1)=((i+1:Nat):Int):=by rw [wrap_id (by omega) (by omega)];omega
  rw [drop_atB (show i < l.length by omega)]
  have hp:=implPutB now (by have:=hV.1;omega) (rb l (i:Int)).f0 (rb l (i:Int)).f1 (rb l (i:Int)).f2 (rb l (i:Int)).f3 (rb l (i:Int)).f4 (rb l (i:Int)).f5 (smallBs_at hl i (by omega))
  have ih2:=ih (i+1) (nextB now (rb l (i:Int))) (codes ++ [(stepB now (rb l (i:Int))).2]) (by omega) (by omega) (nextB_valid hV _) (by simp;omega)
  rw [List.append_assoc] at ih2
  refine ev_succ ?_
  simp only [impl_ProducersRun.l0,if_pos (show (i:Int) < (l.length:Int) by omega),if_pos (show (0:Int) ≤ i by omega),e1,if_pos (show codes.length < 17592186044416 by omega)]
  refine Ev.bind hp ?_
  by_cases h5:(stepB now (rb l (i:Int))).2=5
  ·have h5' : (pput now (rb l (i:Int)).f1 (rb l (i:Int)).f2 (rb l (i:Int)).f3 (rb l (i:Int)).f4 (rb l (i:Int)).f5).2=5:=h5
   simp only [if_pos h5']
   have hn:nextB now (rb l (i:Int))=now:=by unfold nextB;rw [if_pos h5]
   rw [hn] at ih2
   simp only [fin,cds,hn]
   exact ih2
  ·have h5' : ¬ (pput now (rb l (i:Int)).f1 (rb l (i:Int)).f2 (rb l (i:Int)).f3 (rb l (i:Int)).f4 (rb l (i:Int)).f5).2=5:=h5
   simp only [if_neg h5']
   have hn:nextB now (rb l (i:Int))=(stepB now (rb l (i:Int))).1:=by unfold nextB;rw [if_neg h5]
   rw [hn] at ih2
   simp only [fin,cds,hn]
   exact ih2
theorem implRun (l:List Bt) (hl:smallBs l):Ev (fun k=>impl_ProducersRun.f k l) (fin l [],cds l []):=by
 unfold impl_ProducersRun.f
 have:=implRun_loop l hl l.length 0 [] [] (by omega) (by omega) VP_nil (by simp)
 simpa using this
theorem specRun_loop (l:List Bt) (hl:smallBs l):∀ (d i:Nat) (now:List Pr) (codes:List Int),l.length - i=d→i ≤ l.length→VP now→codes.length ≤ i→Ev (fun k=>spec_ProducersRun.l0 k l now codes (i:Int)) (fin (l.drop i) now,codes ++ cds (l.drop i) now):=by
 intro d
 induction d with
 | zero=>
  intro i now codes hd hi hV hc
  rw [show l.drop i = [] from List.drop_eq_nil_of_le (by omega)]
  refine ev_succ ?_
  simp only [spec_ProducersRun.l0,if_neg (show ¬ (i:Int) < (l.length:Int) by omega),fin,cds,List.append_nil]
  exact ev_some _
 | succ d ih=>
  intro i now codes hd hi hV hc
  have hll:=hl.1
  have e1:wrap64 ((i:Int)+1)=((i+1:Nat):Int):=by rw [wrap_id (by omega) (by omega)];omega
  rw [drop_atB (show i < l.length by omega)]
  have hp:=specPutB now (by have:=hV.1;omega) (rb l (i:Int)).f0 (rb l (i:Int)).f1 (rb l (i:Int)).f2 (rb l (i:Int)).f3 (rb l (i:Int)).f4 (rb l (i:Int)).f5 (smallBs_at hl i (by omega))
  have ih2:=ih (i+1) (nextB now (rb l (i:Int))) (codes ++ [(stepB now (rb l (i:Int))).2]) (by omega) (by omega) (nextB_valid hV _) (by simp;omega)
  rw [List.append_assoc] at ih2
  refine ev_succ ?_
  simp only [spec_ProducersRun.l0,if_pos (show (i:Int) < (l.length:Int) by omega),if_pos (show (0:Int) ≤ i by omega),e1,if_pos (show codes.length < 17592186044416 by omega)]
  refine Ev.bind hp ?_
  by_cases h5:(stepB now (rb l (i:Int))).2=5
  ·have h5' : (pput now (rb l (i:Int)).f1 (rb l (i:Int)).f2 (rb l (i:Int)).f3 (rb l (i:Int)).f4 (rb l (i:Int)).f5).2=5:=h5
   simp only [if_pos h5']
   have hn:nextB now (rb l (i:Int))=now:=by unfold nextB;rw [if_pos h5]
   rw [hn] at ih2
   simp only [fin,cds,hn]
   exact ih2
  ·have h5' : ¬ (pput now (rb l (i:Int)).f1 (rb l (i:Int)).f2 (rb l (i:Int)).f3 (rb l (i:Int)).f4 (rb l (i:Int)).f5).2=5:=h5
   simp only [if_neg h5']
   have hn:nextB now (rb l (i:Int))=(stepB now (rb l (i:Int))).1:=by unfold nextB;rw [if_neg h5]
   rw [hn] at ih2
   simp only [fin,cds,hn]
   exact ih2
theorem specRun (l:List Bt) (hl:smallBs l):Ev (fun k=>spec_ProducersRun.f k l) (fin l [],cds l []):=by
 unfold spec_ProducersRun.f
 have:=specRun_loop l hl l.length 0 [] [] (by omega) (by omega) VP_nil (by simp)
 simpa using this
theorem sameI_loop (a:List Int) (hs:a.length ≤ 1000000000000):∀ (d i:Nat),a.length - i=d→i ≤ a.length→Ev (fun k=>laws_sameInts.l0 k a a (i:Int)) true:=by
 intro d
 induction d with
 | zero=>
  intro i hd hi
  refine ev_succ ?_
  simp only [laws_sameInts.l0,if_neg (show ¬ (i:Int) < (a.length:Int) by omega)]
  exact ev_some _
 | succ d ih=>
  intro i hd hi
  have e1:wrap64 ((i:Int)+1)=((i+1:Nat):Int):=by rw [wrap_id (by omega) (by omega)];omega
  refine ev_succ ?_
  simp only [laws_sameInts.l0,if_pos (show (i:Int) < (a.length:Int) by omega),if_pos (show (0:Int) ≤ i by omega),if_true,e1]
  exact ih (i+1) (by omega) (by omega)
theorem sameI (a:List Int) (hs:a.length ≤ 1000000000000):Ev (fun k=>laws_sameInts.f k a a) true:=by
 unfold laws_sameInts.f
 simp only [if_true]
 exact sameI_loop a hs a.length 0 (by omega) (by omega)
def drawnBs (n:Nat) (l:List Bt):Prop:=l.length ≤ n∧∀ b ∈ l,drawnR 5 b.f5
theorem drawnBs_add {n:Nat} {l:List Bt} (h:drawnBs n l) {b:Bt} (hb:drawnR 5 b.f5):drawnBs (n+1) (l ++ [b]):=by
 refine ⟨by have:=h.1;simp;omega,fun x hx=>?_⟩
 rcases List.mem_append.1 hx with hx|hx
 ·exact h.2 x hx
 ·rw [List.mem_singleton.1 hx];exact hb
theorem drawnBs_mono {n m:Nat} {l:List Bt} (h:drawnBs n l) (hm:n ≤ m):drawnBs m l:=⟨by have:=h.1;omega,h.2⟩
theorem run_draw_loop (bs:List Int) (hb:Bytes bs) (hl:bs.length ≤ 2000) (n:Int) (hn:n ≤ 10):∀ (d:Nat) (l:List Bt) (x6:List Int) (i p:Int),n - i ≤ d→0 ≤ i→x6.length=3→drawnBs i.toNat l→0 ≤ p→p+1000 * d ≤ 400000000 →
  Evs (fun k=>spec_DrawProducersRun.l0 k l n x6 i bs p) (fun r=>drawnBs (max i n).toNat r):=by
 intro d
 induction d with
 | zero=>
  intro l x6 i p hd hi h3 hll h0 h1
  refine Evs.succ ?_
  simp only [spec_DrawProducersRun.l0,if_neg (show ¬ i < n by omega)]
  exact Evs.done (drawnBs_mono hll (by omega))
 | succ d ih=>
  intro l x6 i p hd hi h3 hll h0 h1
  refine Evs.succ ?_
  by_cases hlt:i < n
  ·have e1:wrap64 (i+1)=i+1:=wrap_id (by omega) (by omega)
   have e2:wrap64 (2 * i)=2 * i:=wrap_id (by omega) (by omega)
   have hlim:l.length < 2513169434916:=lim2 (by have:=hll.1;omega) (by omega)
   simp only [spec_DrawProducersRun.l0,if_pos hlt,e1,if_pos hlim]
   refine Evs.bind (batch_evs bs hb hl p (wrap64 (2 * i)) h0 (by omega)) ?_
   rintro ⟨b0,b1,b2,b3,b4,rs,q⟩ ⟨hd5,hpos,q0,q1,ha2⟩
   dsimp only at hd5 hpos q0 q1 ha2 ⊢
   by_cases h2:b2 < 3
   ·simp only [if_pos h2]
    refine Evs.bind (pick_evs bs q 12 hb hl (by omega) (by omega) (by omega)) ?_
    rintro ⟨u,_⟩ ⟨u0,u1,rfl⟩
    simp only [if_pos ha2,if_pos (show b2 < (x6.length:Int) by omega)]
    refine Evs.bind (pick_evs bs (q+1) 5 hb hl (by omega) (by omega) (by omega)) ?_
    rintro ⟨v,_⟩ ⟨v0,v1,rfl⟩
    by_cases hv:v > 0
    ·simp only [if_pos hv]
     have h:=ih (l ++ [⟨b0,b1,b2,wrap64 (Int.tdiv u 11),rd x6 b2,rs⟩]) (x6.set b2.toNat (wrap64 (rd x6 b2+(rs.length:Int)))) (i+1) (q+1+1) (by omega) (by omega) (by rw [List.length_set];exact h3) (drawnBs_mono (drawnBs_add hll hd5) (by omega)) (by omega) (by omega)
     rw [show max (i+1) n=max i n by omega] at h
     exact h
    ·simp only [if_neg hv]
     have h:=ih (l ++ [⟨b0,b1,b2,wrap64 (Int.tdiv u 11),rd x6 b2,rs⟩]) x6 (i+1) (q+1+1) (by omega) (by omega) h3 (drawnBs_mono (drawnBs_add hll hd5) (by omega)) (by omega) (by omega)
     rw [show max (i+1) n=max i n by omega] at h
     exact h
   ·simp only [if_neg h2]
    have h:=ih (l ++ [⟨b0,b1,b2,b3,b4,rs⟩]) x6 (i+1) q (by omega) (by omega) h3 (drawnBs_mono (drawnBs_add hll hd5) (by omega)) (by omega) (by omega)
    rw [show max (i+1) n=max i n by omega] at h
    exact h
  ·simp only [spec_DrawProducersRun.l0,if_neg hlt]
   exact Evs.done (drawnBs_mono hll (by omega))
theorem drawRun {l0:List Int} (hb:Bytes l0):Evs (fun k=>spec_DrawProducersRun.f k l0) (fun r=>drawnBs 10 r):=by
 obtain ⟨b,ho,hb2,hbl⟩:=open_ev l0 hb
 unfold spec_DrawProducersRun.f
 simp only [ho,bsome]
 refine Evs.bind (pick_evs b 0 7 hb2 hbl (by omega) (by omega) (by omega)) ?_
 rintro ⟨u,_⟩ ⟨u0,u1,rfl⟩
 have h:=run_draw_loop b hb2 hbl u (by omega) 10 [] [0,0,0] 0 (0+1) (by omega) (by omega) rfl ⟨by simp,fun b hb=>by cases hb⟩ (by omega) (by omega)
 exact h.mono (fun r hr=>drawnBs_mono hr (by omega))
theorem drawnBs_small {l:List Bt} (h:drawnBs 10 l):smallBs l:=⟨by have:=h.1;omega,fun b hb=>drawnR_small (by omega) (h.2 b hb)⟩
end Go.Proofs.Ytkhmopmfbocokaa.Q
namespace Go.Proofs.Ytkhmopmfbocokaa.Pure
open Go.RowKit Go.Proofs.Ytkhmopmfbocokaa.T Go.Proofs.YtkhmopmfbocokaaW.PrintWords Go.Proofs.YtkhmopmfbocokaaW.PrintLast Go.Proofs.Ytkhmopmfbocokaa.Q
set_option linter.unusedVariables false
set_option linter.unusedSimpArgs false
def cov (now:List Pr) (b:Bt):Prop:=∃ t,findP now b.f2=some t∧t.f1=b.f3∧b.f4 < t.f2
def vB (b:Bt):Prop:=VB b.f1 b.f2 b.f3 b.f4 b.f5
theorem cov_code {now:List Pr} (hV:VP now) {b:Bt} (hB:vB b) (h:cov now b):stepB now b=(now,1):=by
 obtain ⟨t,hf,he,hlt⟩:=h
 have hm:=findP_some hf
 have hok:=(VP_mem hV t hm.1).1
 have h255:b.f2 ≠ 255:=by omega
 have hc:codeP now b.f2 b.f3 b.f4=1:=by
  unfold codeP
  rw [if_neg h255,hf]
  dsimp only
  rw [if_neg (by omega),if_pos he]
  unfold seqCode
  rw [if_pos hlt]
 unfold stepB pput
 rw [pcode_of hV hB,hc,if_neg (by decide),if_neg (by decide)]
theorem second:∀ (l:List Bt) (now:List Pr),VP now→(∀ b ∈ l,vB b∧cov now b)→∀ c ∈ cds l now,c=1
 | [],now,_,_,c,hc=>by cases hc
 | b :: r,now,hV,h,c,hc=>by
  have hs:=cov_code hV (h b List.mem_cons_self).1 (h b List.mem_cons_self).2
  have hn:nextB now b=now:=by unfold nextB;rw [hs];rfl
  simp only [cds,hs,hn] at hc
  rcases List.mem_cons.1 hc with rfl|hc
  ·rfl
  ·exact second r now hV (fun b' hb'=>h b' (List.mem_cons_of_mem _ hb')) c hc
theorem first_step {now:List Pr} (hV:VP now) {b:Bt} (hz:(stepB now b).2=0):vB b∧cov (nextB now b) b∧∀ b',cov now b'→b'.f3=b.f3→cov (nextB now b) b':=by
 unfold stepB at hz
 rcases pput_cases now b.f1 b.f2 b.f3 b.f4 b.f5 with hp|⟨_,hB,hc,hV2,hp⟩|⟨_,_,hc,hp⟩
 ·rw [hp] at hz
  dsimp only at hz
  omega
 ·obtain ⟨hw,hlt⟩:=newP_next hB
  have hn:nextB now b=insP now (newP b.f2 b.f3 b.f4 b.f5):=by unfold nextB stepB;rw [hp,if_neg (show ¬ (0:Int)=5 by decide)]
  have hfind:findP (insP now (newP b.f2 b.f3 b.f4 b.f5)) b.f2=some (newP b.f2 b.f3 b.f4 b.f5):=findP_ins (VP_sorted hV) (newP b.f2 b.f3 b.f4 b.f5)
  rw [hn]
  refine ⟨hB,⟨_,hfind,rfl,by dsimp only;rw [hw];exact hlt⟩,?_⟩
  rintro b' ⟨t,hf,he,hlt'⟩ hee
  obtain ⟨hm,hk⟩:=findP_some hf
  by_cases hk2:b'.f2=b.f2
  ·rw [hk2] at hf
   have hs:b.f4=t.f2:=by
    unfold codeP at hc
    rw [if_neg (codeP_zero (by unfold codeP;exact hc)),hf] at hc
    dsimp only at hc
    rw [if_neg (by omega),if_pos (by omega)] at hc
    exact seqCode_zero hc
   refine ⟨newP b.f2 b.f3 b.f4 b.f5,by rw [hk2];exact hfind,hee.symm,?_⟩
   dsimp only
   rw [hw]
   omega
  ·refine ⟨t,?_,he,hlt'⟩
   rw [← hk]
   exact findP_of (insP_sorted (VP_sorted hV) _) (insP_mem.2 (.inr ⟨hm,by dsimp only;omega⟩))
 ·rw [hp] at hz
  exact absurd hz hc
theorem first (E:Int):∀ (l:List Bt) (now:List Pr) (old:List Bt),VP now→(∀ b ∈ old,vB b∧cov now b∧b.f3=E)→(∀ c ∈ cds l now,c=0)→(∀ b ∈ l,b.f3=E)→∀ b,b ∈ old∨b ∈ l→vB b∧cov (fin l now) b
 | [],now,old,_,h,_,_,b,hb=>by
  rcases hb with hb|hb
  ·exact ⟨(h b hb).1,(h b hb).2.1⟩
  ·cases hb
 | a :: r,now,old,hV,h,hc,hE,b,hb=>by
  have hz:(stepB now a).2=0:=hc _ (by simp [cds])
  obtain ⟨h1,h2,h3⟩:=first_step hV hz
  have hEa:=hE a List.mem_cons_self
  refine first E r (nextB now a) (a :: old) (nextB_valid hV a) ?_ (fun c hc'=>hc c (by simp only [cds];exact List.mem_cons_of_mem _ hc')) (fun b' hb'=>hE b' (List.mem_cons_of_mem _ hb')) b ?_
  ·intro b' hb'
   rcases List.mem_cons.1 hb' with rfl|hb'
   ·exact ⟨h1,h2,hEa⟩
   ·obtain ⟨k1,k2,k3⟩:=h b' hb'
    exact ⟨k1,h3 b' k2 (by omega),k3⟩
  ·rcases hb with hb|hb
   ·exact .inl (List.mem_cons_of_mem _ hb)
   ·rcases List.mem_cons.1 hb with rfl|hb
    ·exact .inl List.mem_cons_self
    ·exact .inr hb
theorem twice_codes {l:List Bt} {E:Int} (hc:∀ c ∈ cds l [],c=0) (hE:∀ b ∈ l,b.f3=E):∀ c ∈ cds l (fin l []),c=1:=
 second l _ (fin_valid l VP_nil) (fun b hb=>first E l [] [] VP_nil (fun b hb=>by cases hb) hc hE b (.inr hb))
theorem twice_l1 (l:List Bt) (again:List Int) (hl:l.length ≤ 1000000) (hlen:again.length=2 * l.length) (h1:∀ j:Nat,l.length ≤ j→j < again.length→rd again (j:Int)=1):∀ (d i:Nat),again.length - i=d→i ≤ again.length→l.length ≤ i→Ev (fun k=>laws_FnRunTwice.l1 k l again (i:Int)) true:=by
 intro d
 induction d with
 | zero=>
  intro i hd hi hn
  refine ev_succ ?_
  simp only [laws_FnRunTwice.l1,if_neg (show ¬ (i:Int) < (again.length:Int) by omega)]
  rw [show ((again.length:Int) == wrap64 (2 * (l.length:Int)))=true by rw [wrap_id (by omega) (by omega)];simp;omega]
  exact ev_some _
 | succ d ih=>
  intro i hd hi hn
  have e1:wrap64 ((i:Int)+1)=((i+1:Nat):Int):=by rw [wrap_id (by omega) (by omega)];omega
  refine ev_succ ?_
  simp only [laws_FnRunTwice.l1,if_pos (show (i:Int) < (again.length:Int) by omega),if_pos (show (0:Int) ≤ i by omega),if_pos (h1 i hn (by omega)),e1]
  exact ih (i+1) (by omega) (by omega) (by omega)
theorem twice_l0 (l:List Bt) (hl:smallBs l) (h0 : 0 < l.length) (hl5:l.length ≤ 400000):∀ (d i:Nat),l.length - i=d→i ≤ l.length→(∀ j:Nat,j < i→rd (cds l []) (j:Int)=0∧(rb l (j:Int)).f3=(rb l 0).f3)→Ev (fun k=>laws_FnRunTwice.l0 k l (cds l []) (i:Int)) true:=by
 have hcl:=cds_len l []
 intro d
 induction d with
 | zero=>
  intro i hd hi hall
  have hcz:∀ c ∈ cds l [],c=0:=by
   intro c hc
   obtain ⟨j,hj,rfl⟩:=List.getElem_of_mem hc
   have:=(hall j (by omega)).1
   rwa [rd_nat _ j hj] at this
  have hEz:∀ b ∈ l,b.f3=(rb l 0).f3:=by
   intro b hb
   obtain ⟨j,hj,rfl⟩:=List.getElem_of_mem hb
   have:=(hall j (by omega)).2
   rwa [rb_nat _ j hj] at this
  have h2:=twice_codes hcz hEz
  have hsm:smallBs (l ++ l):=⟨by simp;omega,fun b hb=>by rcases List.mem_append.1 hb with hb|hb <;> exact hl.2 b hb⟩
  refine ev_succ ?_
  simp only [laws_FnRunTwice.l0,if_neg (show ¬ (i:Int) < (l.length:Int) by omega),bsome,List.length_nil,List.nil_append,if_pos (show 0+l.length < 2513169434916 by omega),if_pos (show l.length+l.length < 2513169434916 by omega)]
  refine Ev.bind (implRun (l ++ l) hsm) ?_
  have hcl2:=cds_len (l ++ l) []
  rw [List.length_append] at hcl2
  refine twice_l1 l (cds (l ++ l) []) (by omega) (by omega) ?_ l.length l.length (by omega) (by omega) (by omega)
  intro j hj1 hj2
  rw [rd_nat _ j hj2]
  refine h2 _ ?_
  have:(cds (l ++ l) [])[j]=(cds l (fin l []))[j - l.length]'(by rw [cds_len];omega):=by
   simp only [cds_append]
   rw [List.getElem_append_right (by rw [cds_len];omega)]
   simp only [cds_len]
  rw [this]
  exact List.getElem_mem _
 | succ d ih=>
  intro i hd hi hall
  have e1:wrap64 ((i:Int)+1)=((i+1:Nat):Int):=by rw [wrap_id (by omega) (by omega)];omega
  refine ev_succ ?_
  simp only [laws_FnRunTwice.l0,if_pos (show (i:Int) < (l.length:Int) by omega),if_pos (show (0:Int) ≤ i by omega),if_pos (show (i:Int) < ((cds l []).length:Int) by omega),e1]
  by_cases hc:rd (cds l []) (i:Int)=0
  ·simp only [if_pos hc,if_pos (show 0 < (l.length:Int) by omega)]
   by_cases he:(rb l (i:Int)).f3=(rb l 0).f3
   ·simp only [if_pos he]
    refine ih (i+1) (by omega) (by omega) (fun j hj=>?_)
    by_cases e:j=i
    ·subst e;exact ⟨hc,he⟩
    ·exact hall j (by omega)
   ·simp only [if_neg he]
    exact ev_some _
  ·simp only [if_neg hc]
   exact ev_some _
theorem FnRunTwice:laws_FnRunTwice.Pure:=by
 intro l0 _ _ hb0
 refine Ev.rounds ?_
 have hb:=bytes_of hb0
 unfold laws_FnRunTwice.f
 by_cases h:(l0.length:Int) > 1048576
 ·simp only [if_pos h]
  exact ev_some _
 ·simp only [if_neg h]
  obtain ⟨l,hd,hdl⟩:=drawRun hb
  have hl:=drawnBs_small hdl
  have h10:=hdl.1
  have hV:=fin_valid l VP_nil
  have h20:=hV.1
  refine Ev.bind hd ?_
  refine Ev.bind (implRun l hl) ?_
  refine Ev.bind (specRun l hl) ?_
  refine Ev.bind (sameI (cds l []) (by rw [cds_len];omega)) ?_
  simp only [if_true]
  refine Ev.bind (sameP (fin l []) (by omega)) ?_
  simp only [if_true]
  refine ev_succ ?_
  by_cases h0:l.length=0
  ·simp only [laws_FnRunTwice.j0,show ((l.length:Int) == 0)=true by simpa using h0,if_true]
   refine Ev.bind (sameI (cds l []) (by rw [cds_len];omega)) ?_
   simp only [if_true]
   exact Ev.bind (sameP (fin l []) (by omega)) (ev_some _)
  ·simp only [laws_FnRunTwice.j0,show ((l.length:Int) == 0)=false by simpa using h0,Bool.false_eq_true,if_false]
   exact twice_l0 l hl (by omega) (by omega) l.length 0 (by omega) (by omega) (fun j hj=>by omega)
end Go.Proofs.Ytkhmopmfbocokaa.Pure
namespace Go.Proofs.Ytkhmopmfbocokaa.fnRunTwice
open Go.ChangeShapes Go.WideShapes Go.ChangeAt Go.RowKit
open Go.ChangeMaps (open_string shut_string)
set_option linter.unusedVariables false
theorem own:ownKnob Try.prog.godebug=none:=by kernel_rfl
theorem laidOut:laidOutB Try.prog=true:=by kernel_rfl
def IsRow (k:IntKind) (w:World) (a:Option Addr) (len cap:Nat) (zs:List Int):Prop:=
 (a=none∧len=0∧cap=0∧zs = []) ∨
 ∃ x,a=some x∧len ≤ cap∧cap ≤ maxLen∧zs.length=cap∧(∀ i,i < zs.length→w.cell? (x.add i)=some (.int k (zs.getD i 0)))∧∀ n ∈ zs,(Lit.int k n).wf=true
set_option maxRecDepth 100000 in
theorem lifted (os:Os) (started:os.Started) (H:Type) (enc:TypeId × Value→H) :
  ReturnsInHanded {} Try.checked os 15 .any (Rows.fnRunTwiceSpec.pre6 enc Try.prog Try.f15 Rows.fnRunTwiceRow.domain false) (Rows.fnRunTwiceSpec.post enc Try.prog Try.f15 false true false false):=by
 refine returnsInHanded_of_change_sized (C:=Try.checked) own started (by kernel_rfl) Try.func15
  (ChangeSpec.witness6 (enc:=enc) (C:=Try.checked) false ⟨#[],#[.slice none 0 0],[]⟩ 8 (by kernel_rfl) (by kernel_rfl) (by kernel_rfl) (by kernel_rfl)) ?_
 intro W base args ds gs before hval0 hW hcnd hsz0 _
 have hsz:(DataW.weightsEach Try.prog (Try.f15.params.toList ++ Rows.fnRunTwiceSpec.plain.varTypes Try.prog) (ds ++ gs)).all (· ≤ reachBytes)=true:=hsz0
 have hval:∀ (j:Nat) t v,Try.f15.params[j]? = some t→args[j]? = some v→Value.okWide Try.prog W .any base t v:=hval0
 have hW':=hW
 obtain ⟨p,q,hA0,hV,rfl,hfz,hnd⟩:=hW
 have hA:DataW.TrodAll enc Try.prog W 0 (fun _=>true) true Try.f15.params.toList args.toList ds p:=hA0
 rw [Try.params15] at hA hval hsz
 obtain ⟨v0,vs0,d0,ds0,p0,q0,hargs,rfl,rfl,h0,r0⟩:=trodAll_cons hA
 obtain ⟨rfl,rfl,rfl⟩:=trodAll_nil r0
 obtain rfl:args = #[v0]:=by cases args;simp_all
 obtain ⟨rfl,rfl⟩:=trodVars_none hV
 obtain ⟨a0,len0,cap0,rfl⟩:=okWide_slice Try.underlying22 (hval 0 22 v0 rfl rfl)
 have k0:=h0
 have lt0:∀ x ∈ p0,x.block < W.heap.size:=by obtain ⟨m,hm⟩:=k0;exact DataW.trod_lt m _ _ _ hm
 obtain ⟨z0,w0⟩:∃ zs,IsRow .u8 W a0 len0 cap0 zs:=by
  obtain ⟨fuel,hf⟩:=h0
  rcases open_ints Try.underlying22 Try.underlying5 (by kernel_rfl) hf with ⟨hcs,_⟩|⟨x,l,c,zs,hcs,_,hl,hm,hz,_,hcell,hwz⟩
  ·simp [Value.cells] at hcs
   obtain ⟨rfl,rfl,rfl⟩:=hcs
   exact ⟨[],.inl ⟨rfl,rfl,rfl,rfl⟩⟩
  ·simp [Value.cells] at hcs
   obtain ⟨rfl,rfl,rfl⟩:=hcs
   exact ⟨zs,.inr ⟨_,rfl,hl,hm,by simpa using hz,hcell,hwz⟩⟩
 have y0:len0 * 1 ≤ 140737488351232:=Go.Proofs.YtkhmopmfbocokaaW.PrintWords.sized_ints hsz (j:=0) (t:=22) rfl rfl Try.underlying22 Try.underlying5 (by kernel_rfl) (by kernel_rfl) h0
 clear hA0 hval0 hsz0 hsz
 refine (T.laws_FnRunTwice.walk Pure.FnRunTwice a0 len0 cap0 z0 W w0 y0).mono fun e W' ⟨he,bel⟩=>?_
 subst he
 exact ⟨_,rfl,_,_,_,[],_,[],hW',trodAll_mk1 (shut_bool Try.underlying4 _),(trodAll_cons_mk (Below.trod laidOut (by kernel_rfl) (of_decide_eq_true (by kernel_rfl)) k0 bel lt0) trodAll_mk0),rfl,bel.frame _,fun h=>by cases h⟩
theorem closed:joinedFacts Try.prog 15 Try.f15 Rows.fnRunTwiceSpec Rows.fnRunTwiceRow=true:=
 Head.closed_of _ _ _ _ _ (by kernel_rfl) (by kernel_rfl) (by kernel_rfl) (by kernel_rfl) (by kernel_rfl) (by kernel_rfl) (by kernel_rfl) (by kernel_rfl) (by kernel_rfl) (by kernel_rfl) (by kernel_rfl) (by kernel_rfl) (by kernel_rfl) (by kernel_rfl) (by kernel_rfl) (by kernel_rfl) (by kernel_rfl) (by kernel_rfl) (by kernel_rfl) (by kernel_rfl) (by kernel_rfl) (by kernel_rfl) (by kernel_rfl) (by kernel_rfl) (by kernel_rfl) Head.may_enter (by rw [Head.lifts_final];kernel_rfl) (by rw [Head.make_is];kernel_rfl) (by kernel_rfl) (by kernel_rfl) (by kernel_rfl) (by kernel_rfl)
theorem over:Rows.fnRunTwiceRow.holds Try.pinned (OpenSpec.ofChange Rows.fnRunTwiceSpec):=
 OpenClaim.holds_of_wide 15 Try.f15 rfl rfl rfl rfl rfl rfl rfl ⟨rfl,rfl,rfl,rfl,rfl⟩ rfl rfl rfl rfl rfl (by kernel_rfl) Try.func15 closed
  (of_decide_eq_true (by kernel_rfl)) (by unfold Func.isWrapper;first|(rw [if_pos (by decide +kernel)];kernel_rfl)|(rw [if_neg (by decide +kernel)];exact ⟨rfl,rfl⟩))
  (fun os started H enc _=>lifted os started H enc)
theorem proved:Rows.FnRunTwiceSaid:=over
end Go.Proofs.Ytkhmopmfbocokaa.fnRunTwice
namespace Go.Proofs.Ytkhmopmfbocokaa
theorem fnRunTwice_holds:Rows.FnRunTwiceSaid:=fnRunTwice.proved
end Go.Proofs.Ytkhmopmfbocokaa
