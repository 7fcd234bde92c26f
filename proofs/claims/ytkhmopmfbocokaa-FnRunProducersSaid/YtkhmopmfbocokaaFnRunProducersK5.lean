/- FnRunProducers, part 6 of 7: merged by wip/tools/pack2.py out of the texts that the row reaches; the pure statement is the session's own. -/
import Derived.RowKit
import Derived.Test.YtkhmopmfbocokaaFnRunProducersK4
open List (setIfInBounds_toArray set_cons_zero set_cons_succ map_toArray map_cons map_nil length_drop length_take)
namespace Go.Proofs.Ytkhmopmfbocokaa.T
open Go.RowKit Go.Proofs.YtkhmopmfbocokaaW.PrintWords Go.Proofs.YtkhmopmfbocokaaW.PrintLast Go.Proofs.YtkhmopmfbocokaaW.PrintMore
attribute [local go_sem] max2_int max_two
set_option linter.unusedVariables false
set_option linter.unusedSimpArgs false
def spec_l21Check.j0:Nat→Int→Bool→Bool→Int→Int→Int→List (S79)→Option (Int)
 | 0,_,_,_,_,_,_,_=>none
 | k+1,x6,x399000,x399001,x399002,x399003,x399004,x399005=>if x399004 < x6 then (some 1) else (if x399004 > x6 then (some 2) else (some 0))
def spec_l21Check.f (k:Nat) (l0:List (S39)) (a1_0:Bool) (a1_1:Bool) (a1_2:Int) (a1_3:Int) (a1_4:Int) (l1_5:List (S79)):Option (Int):=if a1_2=255 then (some 4) else ((spec_l21At.f k l0 a1_2).bind fun t399=>(if t399 ≥ 0 then (if 0 ≤ t399 then (if t399 < (l0.length:Int) then (if a1_3 < ((rd_T39 l0 t399).f1) then (some 3) else (if a1_3=((rd_T39 l0 t399).f1) then (spec_l21Check.j0 k ((rd_T39 l0 t399).f2) a1_0 a1_1 a1_2 a1_3 a1_4 l1_5) else (spec_l21Check.j0 k 0 a1_0 a1_1 a1_2 a1_3 a1_4 l1_5))) else (none)) else (none)) else (spec_l21Check.j0 k 0 a1_0 a1_1 a1_2 a1_3 a1_4 l1_5)))
set_option maxHeartbeats 8000000 in
set_option maxRecDepth 100000 in
theorem spec_l21Check.calls (k:Nat) (A0:Option Addr) (c0:Nat) (l0:List (S39)) (a1_0:Bool) (a1_1:Bool) (a1_2:Int) (a1_3:Int) (a1_4:Int) (A1_5:Option Addr) (c1_5:Nat) (l1_5:List (S79)) (r:Int) (w:World) (hr0:Kd.C k39 w A0 l0.length l0) (hc0:l0.length ≤ c0) (hr1_5:Kd.C k79 w A1_5 l1_5.length l1_5) (hc1_5:l1_5.length ≤ c1_5) (h:spec_l21Check.f k l0 a1_0 a1_1 a1_2 a1_3 a1_4 l1_5=some r) :
  Calls Try.prog 60 #[.slice A0 l0.length c0,.agg #[.bool a1_0,.bool a1_1,.int .i64 a1_2,.int .i64 a1_3,.int .i64 a1_4,.slice A1_5 l1_5.length c1_5]] w fun e w'=>e = .returned (.int .i64 r)∧Below w.heap.size w w':=by
 have hu34:=Try.underlying34
 have HR0:=Aside0.mk hr0
 have HC0:=Aside0.mk hc0
 clear hr0 hc0
 have HR1_5:=Aside0.mk hr1_5
 have HC1_5:=Aside0.mk hc1_5
 clear hr1_5 hc1_5
 have HB:=Aside0.mk (Below.refl w.heap.size w)
 have H:(if a1_2=255 then (some 4) else ((spec_l21At.f k l0 a1_2).bind fun t399=>(if t399 ≥ 0 then (if 0 ≤ t399 then (if t399 < (l0.length:Int) then (if a1_3 < ((rd_T39 l0 t399).f1) then (some 3) else (if a1_3=((rd_T39 l0 t399).f1) then (spec_l21Check.j0 k ((rd_T39 l0 t399).f2) a1_0 a1_1 a1_2 a1_3 a1_4 l1_5) else (spec_l21Check.j0 k 0 a1_0 a1_1 a1_2 a1_3 a1_4 l1_5))) else (none)) else (none)) else (spec_l21Check.j0 k 0 a1_0 a1_1 a1_2 a1_3 a1_4 l1_5))))=some r:=h
 clear h
 by_cases c3:a1_2=255
 ·rw [if_pos c3] at H
  have c3b0:(a1_2 == 255)=true:=beq_iff_eq.mpr c3
  have c3b1:(a1_2 != 255)=false:=bne_eq_false_iff_eq.mpr c3
  clear c3
  obtain rfl:=Option.some.inj H
  go_enter Try.func60,Try.ntmps60
  go_wp2_with (first|((with_reducible refine gate_dst (N:=3) rfl ?_);refine box_event ?hg (N:=3) ?hd (cs:=#[.bool a1_0,.bool a1_1,.int .i64 a1_2,.int .i64 a1_3,.int .i64 a1_4,.slice A1_5 l1_5.length c1_5]) (t:=34) ?hr ?_;(case hd=>rfl);(case hg=>rfl);(case hr=>first|(go_simp;done)|(go_simp;rfl));intro gb398 hg w4 hbox hb;have n0_:=Aside0.mk (below_step (by repeat (first|(with_reducible first|exact HB.out|apply below_alloc|apply pw_below_drewN|apply below_drew1)|exact HB.out)) hb);have n1_:=Aside0.mk (hbox);have n2_:=Aside0.mk ((by rw [hg];exact (below_size (by repeat (first|(with_reducible first|exact HB.out|apply below_alloc|apply pw_below_drewN|apply below_drew1)|exact HB.out))):w.heap.size ≤ gb398));have n3_:=Aside0.mk ((by rw [hg];exact (below_size (by repeat (first|(with_reducible first|exact HB.out|apply below_alloc|apply pw_below_drewN|apply below_drew1)|exact HB.out))):w.heap.size ≤ gb398));clear HB;have HB:=n0_;have BK398:=n1_;have GW398:=n2_;have GE398:=n3_;clear n0_ n1_ n2_ n3_;clear hb hbox hg;have hcz5_0:w4.cell? ⟨gb398,0,none⟩=some (.bool a1_0):=(blk_cell BK398.out 0).trans rfl;have hcz5_1:w4.cell? ⟨gb398,1,none⟩=some (.bool a1_1):=(blk_cell BK398.out 1).trans rfl;have hcz5_2:w4.cell? ⟨gb398,2,none⟩=some (.int .i64 a1_2):=(blk_cell BK398.out 2).trans rfl;have hcz5_3:w4.cell? ⟨gb398,3,none⟩=some (.int .i64 a1_3):=(blk_cell BK398.out 3).trans rfl;have hcz5_4:w4.cell? ⟨gb398,4,none⟩=some (.int .i64 a1_4):=(blk_cell BK398.out 4).trans rfl;have hcz5_5:w4.cell? ⟨gb398,5,none⟩=some (.slice A1_5 l1_5.length c1_5):=(blk_cell BK398.out 5).trans rfl;have hfz5_0:=blk_frozen BK398.out 0;have hfz5_1:=blk_frozen BK398.out 1;have hfz5_2:=blk_frozen BK398.out 2;have hfz5_3:=blk_frozen BK398.out 3;have hfz5_4:=blk_frozen BK398.out 4;have hfz5_5:=blk_frozen BK398.out 5))
  repeat (go_quiet (first|((with_reducible refine gate_dst (N:=3) rfl ?_);refine box_event ?hg (N:=3) ?hd (cs:=#[.bool a1_0,.bool a1_1,.int .i64 a1_2,.int .i64 a1_3,.int .i64 a1_4,.slice A1_5 l1_5.length c1_5]) (t:=34) ?hr ?_;(case hd=>rfl);(case hg=>rfl);(case hr=>first|(go_simp;done)|(go_simp;rfl));intro gb398 hg w4 hbox hb;have n0_:=Aside0.mk (below_step (by repeat (first|(with_reducible first|exact HB.out|apply below_alloc|apply pw_below_drewN|apply below_drew1)|exact HB.out)) hb);have n1_:=Aside0.mk (hbox);have n2_:=Aside0.mk ((by rw [hg];exact (below_size (by repeat (first|(with_reducible first|exact HB.out|apply below_alloc|apply pw_below_drewN|apply below_drew1)|exact HB.out))):w.heap.size ≤ gb398));have n3_:=Aside0.mk ((by rw [hg];exact (below_size (by repeat (first|(with_reducible first|exact HB.out|apply below_alloc|apply pw_below_drewN|apply below_drew1)|exact HB.out))):w.heap.size ≤ gb398));clear HB;have HB:=n0_;have BK398:=n1_;have GW398:=n2_;have GE398:=n3_;clear n0_ n1_ n2_ n3_;clear hb hbox hg;have hcz5_0:w4.cell? ⟨gb398,0,none⟩=some (.bool a1_0):=(blk_cell BK398.out 0).trans rfl;have hcz5_1:w4.cell? ⟨gb398,1,none⟩=some (.bool a1_1):=(blk_cell BK398.out 1).trans rfl;have hcz5_2:w4.cell? ⟨gb398,2,none⟩=some (.int .i64 a1_2):=(blk_cell BK398.out 2).trans rfl;have hcz5_3:w4.cell? ⟨gb398,3,none⟩=some (.int .i64 a1_3):=(blk_cell BK398.out 3).trans rfl;have hcz5_4:w4.cell? ⟨gb398,4,none⟩=some (.int .i64 a1_4):=(blk_cell BK398.out 4).trans rfl;have hcz5_5:w4.cell? ⟨gb398,5,none⟩=some (.slice A1_5 l1_5.length c1_5):=(blk_cell BK398.out 5).trans rfl;have hfz5_0:=blk_frozen BK398.out 0;have hfz5_1:=blk_frozen BK398.out 1;have hfz5_2:=blk_frozen BK398.out 2;have hfz5_3:=blk_frozen BK398.out 3;have hfz5_4:=blk_frozen BK398.out 4;have hfz5_5:=blk_frozen BK398.out 5));try go_wp2_with (first|((with_reducible refine gate_dst (N:=3) rfl ?_);refine box_event ?hg (N:=3) ?hd (cs:=#[.bool a1_0,.bool a1_1,.int .i64 a1_2,.int .i64 a1_3,.int .i64 a1_4,.slice A1_5 l1_5.length c1_5]) (t:=34) ?hr ?_;(case hd=>rfl);(case hg=>rfl);(case hr=>first|(go_simp;done)|(go_simp;rfl));intro gb398 hg w4 hbox hb;have n0_:=Aside0.mk (below_step (by repeat (first|(with_reducible first|exact HB.out|apply below_alloc|apply pw_below_drewN|apply below_drew1)|exact HB.out)) hb);have n1_:=Aside0.mk (hbox);have n2_:=Aside0.mk ((by rw [hg];exact (below_size (by repeat (first|(with_reducible first|exact HB.out|apply below_alloc|apply pw_below_drewN|apply below_drew1)|exact HB.out))):w.heap.size ≤ gb398));have n3_:=Aside0.mk ((by rw [hg];exact (below_size (by repeat (first|(with_reducible first|exact HB.out|apply below_alloc|apply pw_below_drewN|apply below_drew1)|exact HB.out))):w.heap.size ≤ gb398));clear HB;have HB:=n0_;have BK398:=n1_;have GW398:=n2_;have GE398:=n3_;clear n0_ n1_ n2_ n3_;clear hb hbox hg;have hcz5_0:w4.cell? ⟨gb398,0,none⟩=some (.bool a1_0):=(blk_cell BK398.out 0).trans rfl;have hcz5_1:w4.cell? ⟨gb398,1,none⟩=some (.bool a1_1):=(blk_cell BK398.out 1).trans rfl;have hcz5_2:w4.cell? ⟨gb398,2,none⟩=some (.int .i64 a1_2):=(blk_cell BK398.out 2).trans rfl;have hcz5_3:w4.cell? ⟨gb398,3,none⟩=some (.int .i64 a1_3):=(blk_cell BK398.out 3).trans rfl;have hcz5_4:w4.cell? ⟨gb398,4,none⟩=some (.int .i64 a1_4):=(blk_cell BK398.out 4).trans rfl;have hcz5_5:w4.cell? ⟨gb398,5,none⟩=some (.slice A1_5 l1_5.length c1_5):=(blk_cell BK398.out 5).trans rfl;have hfz5_0:=blk_frozen BK398.out 0;have hfz5_1:=blk_frozen BK398.out 1;have hfz5_2:=blk_frozen BK398.out 2;have hfz5_3:=blk_frozen BK398.out 3;have hfz5_4:=blk_frozen BK398.out 4;have hfz5_5:=blk_frozen BK398.out 5)))
  go_ret
  exact ⟨by first|rfl|(simp [errW_none,errW_some] <;> rfl)|(simp [*,errW_none,errW_some] <;> rfl),by repeat (first|(with_reducible first|exact HB.out|apply below_alloc|apply pw_below_drewN|apply below_drew1|refine below_set ?_ GE398.out)|exact HB.out)⟩
 ·rw [if_neg c3] at H
  have c3b0:(a1_2 == 255)=false:=beq_eq_false_iff_ne.mpr c3
  have c3b1:(a1_2 != 255)=true:=bne_iff_ne.mpr c3
  replace H:=Option.bind_eq_some_iff.mp H
  obtain ⟨t399,A60,H⟩:=H
  replace H:(if t399 ≥ 0 then (if 0 ≤ t399 then (if t399 < (l0.length:Int) then (if a1_3 < ((rd_T39 l0 t399).f1) then (some 3) else (if a1_3=((rd_T39 l0 t399).f1) then (spec_l21Check.j0 k ((rd_T39 l0 t399).f2) a1_0 a1_1 a1_2 a1_3 a1_4 l1_5) else (spec_l21Check.j0 k 0 a1_0 a1_1 a1_2 a1_3 a1_4 l1_5))) else (none)) else (none)) else (spec_l21Check.j0 k 0 a1_0 a1_1 a1_2 a1_3 a1_4 l1_5))=some r:=H
  have A6:=Aside0.mk A60
  clear A60
  have HC7:=Aside0.mk H
  clear H
  go_enter Try.func60,Try.ntmps60
  go_upto_if 15 with (first|((with_reducible refine gate_dst (N:=3) rfl ?_);refine box_event ?hg (N:=3) ?hd (cs:=#[.bool a1_0,.bool a1_1,.int .i64 a1_2,.int .i64 a1_3,.int .i64 a1_4,.slice A1_5 l1_5.length c1_5]) (t:=34) ?hr ?_;(case hd=>rfl);(case hg=>rfl);(case hr=>first|(go_simp;done)|(go_simp;rfl));intro gb398 hg w8 hbox hb;have n0_:=Aside0.mk (below_step (by repeat (first|(with_reducible first|exact HB.out|apply below_alloc|apply pw_below_drewN|apply below_drew1)|exact HB.out)) hb);have n1_:=Aside0.mk (hbox);have n2_:=Aside0.mk ((by rw [hg];exact (below_size (by repeat (first|(with_reducible first|exact HB.out|apply below_alloc|apply pw_below_drewN|apply below_drew1)|exact HB.out))):w.heap.size ≤ gb398));have n3_:=Aside0.mk ((by rw [hg];exact (below_size (by repeat (first|(with_reducible first|exact HB.out|apply below_alloc|apply pw_below_drewN|apply below_drew1)|exact HB.out))):w.heap.size ≤ gb398));clear HB;have HB:=n0_;have BK398:=n1_;have GW398:=n2_;have GE398:=n3_;clear n0_ n1_ n2_ n3_;clear hb hbox hg;have hcz9_0:w8.cell? ⟨gb398,0,none⟩=some (.bool a1_0):=(blk_cell BK398.out 0).trans rfl;have hcz9_1:w8.cell? ⟨gb398,1,none⟩=some (.bool a1_1):=(blk_cell BK398.out 1).trans rfl;have hcz9_2:w8.cell? ⟨gb398,2,none⟩=some (.int .i64 a1_2):=(blk_cell BK398.out 2).trans rfl;have hcz9_3:w8.cell? ⟨gb398,3,none⟩=some (.int .i64 a1_3):=(blk_cell BK398.out 3).trans rfl;have hcz9_4:w8.cell? ⟨gb398,4,none⟩=some (.int .i64 a1_4):=(blk_cell BK398.out 4).trans rfl;have hcz9_5:w8.cell? ⟨gb398,5,none⟩=some (.slice A1_5 l1_5.length c1_5):=(blk_cell BK398.out 5).trans rfl;have hfz9_0:=blk_frozen BK398.out 0;have hfz9_1:=blk_frozen BK398.out 1;have hfz9_2:=blk_frozen BK398.out 2;have hfz9_3:=blk_frozen BK398.out 3;have hfz9_4:=blk_frozen BK398.out 4;have hfz9_5:=blk_frozen BK398.out 5)|(go_at_call 71;(with_reducible refine (spec_l21At.calls k _ _ l0 a1_2 t399 _ ?side1 ?side2 A6.out).mono ?_);(case side1=>repeat (first|exact (Kd.C_below HR0.out HB.out)|(with_reducible refine Kd.C_alloc ?_ _)|(with_reducible refine Kd.C_drewN ?_ _)|(with_reducible refine Kd.C_drew ?_)));(case side2=>exact HC0.out);rintro e w' ⟨rfl,⟨nd,rfl⟩⟩;(try first|exact ⟨rfl,_,World.drewN_drewN _ _ _⟩|exact ⟨rfl,_,Eq.trans (World.drewN_drewN _ _ _) (congrArg (World.drewN _) (Nat.add_assoc _ _ _))⟩)))
  repeat (go_quiet (first|((with_reducible refine gate_dst (N:=3) rfl ?_);refine box_event ?hg (N:=3) ?hd (cs:=#[.bool a1_0,.bool a1_1,.int .i64 a1_2,.int .i64 a1_3,.int .i64 a1_4,.slice A1_5 l1_5.length c1_5]) (t:=34) ?hr ?_;(case hd=>rfl);(case hg=>rfl);(case hr=>first|(go_simp;done)|(go_simp;rfl));intro gb398 hg w8 hbox hb;have n0_:=Aside0.mk (below_step (by repeat (first|(with_reducible first|exact HB.out|apply below_alloc|apply pw_below_drewN|apply below_drew1)|exact HB.out)) hb);have n1_:=Aside0.mk (hbox);have n2_:=Aside0.mk ((by rw [hg];exact (below_size (by repeat (first|(with_reducible first|exact HB.out|apply below_alloc|apply pw_below_drewN|apply below_drew1)|exact HB.out))):w.heap.size ≤ gb398));have n3_:=Aside0.mk ((by rw [hg];exact (below_size (by repeat (first|(with_reducible first|exact HB.out|apply below_alloc|apply pw_below_drewN|apply below_drew1)|exact HB.out))):w.heap.size ≤ gb398));clear HB;have HB:=n0_;have BK398:=n1_;have GW398:=n2_;have GE398:=n3_;clear n0_ n1_ n2_ n3_;clear hb hbox hg;have hcz9_0:w8.cell? ⟨gb398,0,none⟩=some (.bool a1_0):=(blk_cell BK398.out 0).trans rfl;have hcz9_1:w8.cell? ⟨gb398,1,none⟩=some (.bool a1_1):=(blk_cell BK398.out 1).trans rfl;have hcz9_2:w8.cell? ⟨gb398,2,none⟩=some (.int .i64 a1_2):=(blk_cell BK398.out 2).trans rfl;have hcz9_3:w8.cell? ⟨gb398,3,none⟩=some (.int .i64 a1_3):=(blk_cell BK398.out 3).trans rfl;have hcz9_4:w8.cell? ⟨gb398,4,none⟩=some (.int .i64 a1_4):=(blk_cell BK398.out 4).trans rfl;have hcz9_5:w8.cell? ⟨gb398,5,none⟩=some (.slice A1_5 l1_5.length c1_5):=(blk_cell BK398.out 5).trans rfl;have hfz9_0:=blk_frozen BK398.out 0;have hfz9_1:=blk_frozen BK398.out 1;have hfz9_2:=blk_frozen BK398.out 2;have hfz9_3:=blk_frozen BK398.out 3;have hfz9_4:=blk_frozen BK398.out 4;have hfz9_5:=blk_frozen BK398.out 5)|(go_at_call 71;(with_reducible refine (spec_l21At.calls k _ _ l0 a1_2 t399 _ ?side1 ?side2 A6.out).mono ?_);(case side1=>repeat (first|exact (Kd.C_below HR0.out HB.out)|(with_reducible refine Kd.C_alloc ?_ _)|(with_reducible refine Kd.C_drewN ?_ _)|(with_reducible refine Kd.C_drew ?_)));(case side2=>exact HC0.out);rintro e w' ⟨rfl,⟨nd,rfl⟩⟩;(try first|exact ⟨rfl,_,World.drewN_drewN _ _ _⟩|exact ⟨rfl,_,Eq.trans (World.drewN_drewN _ _ _) (congrArg (World.drewN _) (Nat.add_assoc _ _ _))⟩)));go_upto_if 15 with (first|((with_reducible refine gate_dst (N:=3) rfl ?_);refine box_event ?hg (N:=3) ?hd (cs:=#[.bool a1_0,.bool a1_1,.int .i64 a1_2,.int .i64 a1_3,.int .i64 a1_4,.slice A1_5 l1_5.length c1_5]) (t:=34) ?hr ?_;(case hd=>rfl);(case hg=>rfl);(case hr=>first|(go_simp;done)|(go_simp;rfl));intro gb398 hg w8 hbox hb;have n0_:=Aside0.mk (below_step (by repeat (first|(with_reducible first|exact HB.out|apply below_alloc|apply pw_below_drewN|apply below_drew1)|exact HB.out)) hb);have n1_:=Aside0.mk (hbox);have n2_:=Aside0.mk ((by rw [hg];exact (below_size (by repeat (first|(with_reducible first|exact HB.out|apply below_alloc|apply pw_below_drewN|apply below_drew1)|exact HB.out))):w.heap.size ≤ gb398));have n3_:=Aside0.mk ((by rw [hg];exact (below_size (by repeat (first|(with_reducible first|exact HB.out|apply below_alloc|apply pw_below_drewN|apply below_drew1)|exact HB.out))):w.heap.size ≤ gb398));clear HB;have HB:=n0_;have BK398:=n1_;have GW398:=n2_;have GE398:=n3_;clear n0_ n1_ n2_ n3_;clear hb hbox hg;have hcz9_0:w8.cell? ⟨gb398,0,none⟩=some (.bool a1_0):=(blk_cell BK398.out 0).trans rfl;have hcz9_1:w8.cell? ⟨gb398,1,none⟩=some (.bool a1_1):=(blk_cell BK398.out 1).trans rfl;have hcz9_2:w8.cell? ⟨gb398,2,none⟩=some (.int .i64 a1_2):=(blk_cell BK398.out 2).trans rfl;have hcz9_3:w8.cell? ⟨gb398,3,none⟩=some (.int .i64 a1_3):=(blk_cell BK398.out 3).trans rfl;have hcz9_4:w8.cell? ⟨gb398,4,none⟩=some (.int .i64 a1_4):=(blk_cell BK398.out 4).trans rfl;have hcz9_5:w8.cell? ⟨gb398,5,none⟩=some (.slice A1_5 l1_5.length c1_5):=(blk_cell BK398.out 5).trans rfl;have hfz9_0:=blk_frozen BK398.out 0;have hfz9_1:=blk_frozen BK398.out 1;have hfz9_2:=blk_frozen BK398.out 2;have hfz9_3:=blk_frozen BK398.out 3;have hfz9_4:=blk_frozen BK398.out 4;have hfz9_5:=blk_frozen BK398.out 5)|(go_at_call 71;(with_reducible refine (spec_l21At.calls k _ _ l0 a1_2 t399 _ ?side1 ?side2 A6.out).mono ?_);(case side1=>repeat (first|exact (Kd.C_below HR0.out HB.out)|(with_reducible refine Kd.C_alloc ?_ _)|(with_reducible refine Kd.C_drewN ?_ _)|(with_reducible refine Kd.C_drew ?_)));(case side2=>exact HC0.out);rintro e w' ⟨rfl,⟨nd,rfl⟩⟩;(try first|exact ⟨rfl,_,World.drewN_drewN _ _ _⟩|exact ⟨rfl,_,Eq.trans (World.drewN_drewN _ _ _) (congrArg (World.drewN _) (Nat.add_assoc _ _ _))⟩))))
  (try simp only [Act.put,setIfInBounds_toArray,set_cons_zero,set_cons_succ])
  go_cut [6] (fun v6 wc=>∃ (kq:Nat) (x6_6:Int),v6 = .int .i64 x6_6∧Aside0 (spec_l21Check.j0 kq x6_6 a1_0 a1_1 a1_2 a1_3 a1_4 l1_5=some r)∧Aside0 (kq ≤ k)∧Aside0 (wc.heap[gb398]? = some (.cells #[.bool a1_0,.bool a1_1,.int .i64 a1_2,.int .i64 a1_3,.int .i64 a1_4,(.slice A1_5 l1_5.length c1_5)] 34 (0,0)))∧Aside0 (Below w.heap.size w wc))
  case first=>
   have H:=HC7.out
   clear HC7
   by_cases c10:t399 ≥ 0
   ·rw [if_pos c10] at H
    have c10b0:decide (0 ≤ t399)=true:=decide_eq_true c10
    clear c10
    (first|rw [c10b0]|(simp only [i64_w,i32_w];rw [c10b0])|skip)
    by_cases c11 : 0 ≤ t399
    ·rw [if_pos c11] at H
     have c11b0:decide (0 ≤ t399)=true:=decide_eq_true c11
     clear c11
     by_cases c12:t399 < (l0.length:Int)
     ·rw [if_pos c12] at H
      have c12b0:decide (t399 < (l0.length:Int))=true:=decide_eq_true c12
      clear c12
      by_cases c13:a1_3 < ((rd_T39 l0 t399).f1)
      ·rw [if_pos c13] at H
       have c13b0:decide (a1_3 < ((rd_T39 l0 t399).f1))=true:=decide_eq_true c13
       clear c13
       obtain rfl:=Option.some.inj H
       have hcz14_0:w8.cell? ⟨gb398,0,none⟩=some (.bool a1_0):=(blk_cell BK398.out 0).trans rfl
       have hcz14_1:w8.cell? ⟨gb398,1,none⟩=some (.bool a1_1):=(blk_cell BK398.out 1).trans rfl
       have hcz14_2:w8.cell? ⟨gb398,2,none⟩=some (.int .i64 a1_2):=(blk_cell BK398.out 2).trans rfl
       have hcz14_3:w8.cell? ⟨gb398,3,none⟩=some (.int .i64 a1_3):=(blk_cell BK398.out 3).trans rfl
       have hcz14_4:w8.cell? ⟨gb398,4,none⟩=some (.int .i64 a1_4):=(blk_cell BK398.out 4).trans rfl
       have hcz14_5:w8.cell? ⟨gb398,5,none⟩=some (.slice A1_5 l1_5.length c1_5):=(blk_cell BK398.out 5).trans rfl
       have hfz14_0:=blk_frozen BK398.out 0
       have hfz14_1:=blk_frozen BK398.out 1
       have hfz14_2:=blk_frozen BK398.out 2
       have hfz14_3:=blk_frozen BK398.out 3
       have hfz14_4:=blk_frozen BK398.out 4
       have hfz14_5:=blk_frozen BK398.out 5
       have p400 : 0 ≤ (t399:Int):=of_decide_eq_true (by first|(with_reducible assumption)|assumption)
       have q400:t399 < (l0.length:Int):=of_decide_eq_true (by first|(with_reducible assumption)|assumption)
       obtain ⟨ad400,e400,hx400_0,hx400_1,hx400_2⟩:=at_T39 HR0.out t399 p400 q400
       cases e400
       replace hx400_0:=(HB.out.cell (World.block_lt_of_cell? w _ hx400_0)).trans hx400_0
       replace hx400_1:=(HB.out.cell (World.block_lt_of_cell? w _ hx400_1)).trans hx400_1
       replace hx400_2:=(HB.out.cell (World.block_lt_of_cell? w _ hx400_2)).trans hx400_2
       replace p400:=eq_true p400
       replace q400:=eq_true q400
       go_wp2
       repeat (go_quiet (fail);try go_wp2)
       go_ret
       exact ⟨by first|rfl|(simp [errW_none,errW_some] <;> rfl)|(simp [*,errW_none,errW_some] <;> rfl),by repeat (first|(with_reducible first|exact HB.out|apply below_alloc|apply pw_below_drewN|apply below_drew1|refine below_set ?_ GE398.out)|exact HB.out)⟩
      ·rw [if_neg c13] at H
       have c13b0:decide (a1_3 < ((rd_T39 l0 t399).f1))=false:=decide_eq_false c13
       clear c13
       by_cases c15:a1_3=((rd_T39 l0 t399).f1)
       ·rw [if_pos c15] at H
        have c15b0:(a1_3 == ((rd_T39 l0 t399).f1))=true:=beq_iff_eq.mpr c15
        have c15b1:(a1_3 != ((rd_T39 l0 t399).f1))=false:=bne_eq_false_iff_eq.mpr c15
        clear c15
        have H':=Aside0.mk H
        clear H
        have hcz16_0:w8.cell? ⟨gb398,0,none⟩=some (.bool a1_0):=(blk_cell BK398.out 0).trans rfl
        have hcz16_1:w8.cell? ⟨gb398,1,none⟩=some (.bool a1_1):=(blk_cell BK398.out 1).trans rfl
        have hcz16_2:w8.cell? ⟨gb398,2,none⟩=some (.int .i64 a1_2):=(blk_cell BK398.out 2).trans rfl
        have hcz16_3:w8.cell? ⟨gb398,3,none⟩=some (.int .i64 a1_3):=(blk_cell BK398.out 3).trans rfl
        have hcz16_4:w8.cell? ⟨gb398,4,none⟩=some (.int .i64 a1_4):=(blk_cell BK398.out 4).trans rfl
        have hcz16_5:w8.cell? ⟨gb398,5,none⟩=some (.slice A1_5 l1_5.length c1_5):=(blk_cell BK398.out 5).trans rfl
        have hfz16_0:=blk_frozen BK398.out 0
        have hfz16_1:=blk_frozen BK398.out 1
        have hfz16_2:=blk_frozen BK398.out 2
        have hfz16_3:=blk_frozen BK398.out 3
        have hfz16_4:=blk_frozen BK398.out 4
        have hfz16_5:=blk_frozen BK398.out 5
        have p400 : 0 ≤ (t399:Int):=of_decide_eq_true (by first|(with_reducible assumption)|assumption)
        have q400:t399 < (l0.length:Int):=of_decide_eq_true (by first|(with_reducible assumption)|assumption)
        obtain ⟨ad400,e400,hx400_0,hx400_1,hx400_2⟩:=at_T39 HR0.out t399 p400 q400
        cases e400
        replace hx400_0:=(HB.out.cell (World.block_lt_of_cell? w _ hx400_0)).trans hx400_0
        replace hx400_1:=(HB.out.cell (World.block_lt_of_cell? w _ hx400_1)).trans hx400_1
        replace hx400_2:=(HB.out.cell (World.block_lt_of_cell? w _ hx400_2)).trans hx400_2
        replace p400:=eq_true p400
        replace q400:=eq_true q400
        have p401 : 0 ≤ (t399:Int):=of_decide_eq_true (by first|(with_reducible assumption)|assumption)
        have q401:t399 < (l0.length:Int):=of_decide_eq_true (by first|(with_reducible assumption)|assumption)
        obtain ⟨ad401,e401,hx401_0,hx401_1,hx401_2⟩:=at_T39 HR0.out t399 p401 q401
        obtain rfl:ad400=ad401:=(by injection e401)
        replace hx401_0:=(HB.out.cell (World.block_lt_of_cell? w _ hx401_0)).trans hx401_0
        replace hx401_1:=(HB.out.cell (World.block_lt_of_cell? w _ hx401_1)).trans hx401_1
        replace hx401_2:=(HB.out.cell (World.block_lt_of_cell? w _ hx401_2)).trans hx401_2
        replace p401:=eq_true p401
        replace q401:=eq_true q401
        have p402 : 0 ≤ (t399:Int):=of_decide_eq_true (by first|(with_reducible assumption)|assumption)
        have q402:t399 < (l0.length:Int):=of_decide_eq_true (by first|(with_reducible assumption)|assumption)
        obtain ⟨ad402,e402,hx402_0,hx402_1,hx402_2⟩:=at_T39 HR0.out t399 p402 q402
        obtain rfl:ad400=ad402:=(by injection e402)
        replace hx402_0:=(HB.out.cell (World.block_lt_of_cell? w _ hx402_0)).trans hx402_0
        replace hx402_1:=(HB.out.cell (World.block_lt_of_cell? w _ hx402_1)).trans hx402_1
        replace hx402_2:=(HB.out.cell (World.block_lt_of_cell? w _ hx402_2)).trans hx402_2
        replace p402:=eq_true p402
        replace q402:=eq_true q402
        go_wp2
        repeat (go_quiet (fail);try go_wp2)
        go_meet
        case rel=>exact ⟨_,((rd_T39 l0 t399).f2),(by first|rfl|(simp;done)|(simp [*];done)),H',⟨by first|omega|exact Nat.le_refl _⟩,⟨by (with_reducible repeat (first|refine blk_drewN ?_ _|refine blk_drew ?_|refine blk_alloc ?_ _));exact BK398.out⟩,⟨by repeat (first|(with_reducible first|exact HB.out|apply below_alloc|apply pw_below_drewN|apply below_drew1|refine below_set ?_ GE398.out)|exact HB.out)⟩⟩
       ·rw [if_neg c15] at H
        have c15b0:(a1_3 == ((rd_T39 l0 t399).f1))=false:=beq_eq_false_iff_ne.mpr c15
        have c15b1:(a1_3 != ((rd_T39 l0 t399).f1))=true:=bne_iff_ne.mpr c15
        have H':=Aside0.mk H
        clear H
        have hcz17_0:w8.cell? ⟨gb398,0,none⟩=some (.bool a1_0):=(blk_cell BK398.out 0).trans rfl
        have hcz17_1:w8.cell? ⟨gb398,1,none⟩=some (.bool a1_1):=(blk_cell BK398.out 1).trans rfl
        have hcz17_2:w8.cell? ⟨gb398,2,none⟩=some (.int .i64 a1_2):=(blk_cell BK398.out 2).trans rfl
        have hcz17_3:w8.cell? ⟨gb398,3,none⟩=some (.int .i64 a1_3):=(blk_cell BK398.out 3).trans rfl
        have hcz17_4:w8.cell? ⟨gb398,4,none⟩=some (.int .i64 a1_4):=(blk_cell BK398.out 4).trans rfl
        have hcz17_5:w8.cell? ⟨gb398,5,none⟩=some (.slice A1_5 l1_5.length c1_5):=(blk_cell BK398.out 5).trans rfl
        have hfz17_0:=blk_frozen BK398.out 0
        have hfz17_1:=blk_frozen BK398.out 1
        have hfz17_2:=blk_frozen BK398.out 2
        have hfz17_3:=blk_frozen BK398.out 3
        have hfz17_4:=blk_frozen BK398.out 4
        have hfz17_5:=blk_frozen BK398.out 5
        have p400 : 0 ≤ (t399:Int):=of_decide_eq_true (by first|(with_reducible assumption)|assumption)
        have q400:t399 < (l0.length:Int):=of_decide_eq_true (by first|(with_reducible assumption)|assumption)
        obtain ⟨ad400,e400,hx400_0,hx400_1,hx400_2⟩:=at_T39 HR0.out t399 p400 q400
        cases e400
        replace hx400_0:=(HB.out.cell (World.block_lt_of_cell? w _ hx400_0)).trans hx400_0
        replace hx400_1:=(HB.out.cell (World.block_lt_of_cell? w _ hx400_1)).trans hx400_1
        replace hx400_2:=(HB.out.cell (World.block_lt_of_cell? w _ hx400_2)).trans hx400_2
        replace p400:=eq_true p400
        replace q400:=eq_true q400
        have p401 : 0 ≤ (t399:Int):=of_decide_eq_true (by first|(with_reducible assumption)|assumption)
        have q401:t399 < (l0.length:Int):=of_decide_eq_true (by first|(with_reducible assumption)|assumption)
        obtain ⟨ad401,e401,hx401_0,hx401_1,hx401_2⟩:=at_T39 HR0.out t399 p401 q401
        obtain rfl:ad400=ad401:=(by injection e401)
        replace hx401_0:=(HB.out.cell (World.block_lt_of_cell? w _ hx401_0)).trans hx401_0
        replace hx401_1:=(HB.out.cell (World.block_lt_of_cell? w _ hx401_1)).trans hx401_1
        replace hx401_2:=(HB.out.cell (World.block_lt_of_cell? w _ hx401_2)).trans hx401_2
        replace p401:=eq_true p401
        replace q401:=eq_true q401
        go_wp2
        repeat (go_quiet (fail);try go_wp2)
        go_meet
        case rel=>exact ⟨_,(0),(by first|rfl|(simp;done)|(simp [*];done)),H',⟨by first|omega|exact Nat.le_refl _⟩,⟨by (with_reducible repeat (first|refine blk_drewN ?_ _|refine blk_drew ?_|refine blk_alloc ?_ _));exact BK398.out⟩,⟨by repeat (first|(with_reducible first|exact HB.out|apply below_alloc|apply pw_below_drewN|apply below_drew1|refine below_set ?_ GE398.out)|exact HB.out)⟩⟩
     ·rw [if_neg c12] at H
      exact absurd H (by simp)
    ·rw [if_neg c11] at H
     exact absurd H (by simp)
   ·rw [if_neg c10] at H
    have c10b0:decide (0 ≤ t399)=false:=decide_eq_false c10
    clear c10
    (first|rw [c10b0]|(simp only [i64_w,i32_w];rw [c10b0])|skip)
    have H':=Aside0.mk H
    clear H
    go_wp2
    repeat (go_quiet (fail);try go_wp2)
    go_meet
    case rel=>exact ⟨_,(0),(by first|rfl|(simp;done)|(simp [*];done)),H',⟨by first|omega|exact Nat.le_refl _⟩,⟨by (with_reducible repeat (first|refine blk_drewN ?_ _|refine blk_drew ?_|refine blk_alloc ?_ _));exact BK398.out⟩,⟨by repeat (first|(with_reducible first|exact HB.out|apply below_alloc|apply pw_below_drewN|apply below_drew1|refine below_set ?_ GE398.out)|exact HB.out)⟩⟩
  case rest=>
   clear HC7
   try clear c1
   try clear p2
   try clear c3
   try clear c3b0
   try clear c3b1
   try clear p4
   try clear q4
   try clear hx4
   try clear c6
   try clear c10
   try clear c10b0
   try clear c11
   try clear c11b0
   try clear c12
   try clear c12b0
   try clear c13
   try clear c13b0
   try clear c15
   try clear c15b0
   try clear c15b1
   try clear hcz14_0
   try clear hcz14_1
   try clear hcz14_2
   try clear hcz14_3
   try clear hcz14_4
   try clear hcz14_5
   try clear hcz16_0
   try clear hcz16_1
   try clear hcz16_2
   try clear hcz16_3
   try clear hcz16_4
   try clear hcz16_5
   try clear hcz17_0
   try clear hcz17_1
   try clear hcz17_2
   try clear hcz17_3
   try clear hcz17_4
   try clear hcz17_5
   try clear hcz5_0
   try clear hcz5_1
   try clear hcz5_2
   try clear hcz5_3
   try clear hcz5_4
   try clear hcz5_5
   try clear hcz9_0
   try clear hcz9_1
   try clear hcz9_2
   try clear hcz9_3
   try clear hcz9_4
   try clear hcz9_5
   try clear hfz14_0
   try clear hfz14_1
   try clear hfz14_2
   try clear hfz14_3
   try clear hfz14_4
   try clear hfz14_5
   try clear hfz16_0
   try clear hfz16_1
   try clear hfz16_2
   try clear hfz16_3
   try clear hfz16_4
   try clear hfz16_5
   try clear hfz17_0
   try clear hfz17_1
   try clear hfz17_2
   try clear hfz17_3
   try clear hfz17_4
   try clear hfz17_5
   try clear hfz5_0
   try clear hfz5_1
   try clear hfz5_2
   try clear hfz5_3
   try clear hfz5_4
   try clear hfz5_5
   try clear hfz9_0
   try clear hfz9_1
   try clear hfz9_2
   try clear hfz9_3
   try clear hfz9_4
   try clear hfz9_5
   try clear hx400_0
   try clear hx400_1
   try clear hx400_2
   try clear hx401_0
   try clear hx401_1
   try clear hx401_2
   try clear hx402_0
   try clear hx402_1
   try clear hx402_2
   try clear p400
   try clear p401
   try clear p402
   try clear q400
   try clear q401
   try clear q402
   obtain ⟨kq,x6_6,rfl,HA,HJ6,BK398,HB⟩:=hcut
   cases kq with
   | zero=>exact absurd HA.out (by simp [spec_l21Check.j0])
   | succ kj6=>
    have H:=HA.out
    clear HA
    simp only [spec_l21Check.j0] at H
    by_cases c18:a1_4 < x6_6
    ·rw [if_pos c18] at H
     have c18b0:decide (a1_4 < x6_6)=true:=decide_eq_true c18
     clear c18
     obtain rfl:=Option.some.inj H
     have hcz19_0:wc.cell? ⟨gb398,0,none⟩=some (.bool a1_0):=(blk_cell BK398.out 0).trans rfl
     have hcz19_1:wc.cell? ⟨gb398,1,none⟩=some (.bool a1_1):=(blk_cell BK398.out 1).trans rfl
     have hcz19_2:wc.cell? ⟨gb398,2,none⟩=some (.int .i64 a1_2):=(blk_cell BK398.out 2).trans rfl
     have hcz19_3:wc.cell? ⟨gb398,3,none⟩=some (.int .i64 a1_3):=(blk_cell BK398.out 3).trans rfl
     have hcz19_4:wc.cell? ⟨gb398,4,none⟩=some (.int .i64 a1_4):=(blk_cell BK398.out 4).trans rfl
     have hcz19_5:wc.cell? ⟨gb398,5,none⟩=some (.slice A1_5 l1_5.length c1_5):=(blk_cell BK398.out 5).trans rfl
     have hfz19_0:=blk_frozen BK398.out 0
     have hfz19_1:=blk_frozen BK398.out 1
     have hfz19_2:=blk_frozen BK398.out 2
     have hfz19_3:=blk_frozen BK398.out 3
     have hfz19_4:=blk_frozen BK398.out 4
     have hfz19_5:=blk_frozen BK398.out 5
     go_wp2
     repeat (go_quiet (fail);try go_wp2)
     go_ret
     exact ⟨by first|rfl|(simp [errW_none,errW_some] <;> rfl)|(simp [*,errW_none,errW_some] <;> rfl),by repeat (first|(with_reducible first|exact HB.out|apply below_alloc|apply pw_below_drewN|apply below_drew1|refine below_set ?_ GE398.out)|exact HB.out)⟩
    ·rw [if_neg c18] at H
     have c18b0:decide (a1_4 < x6_6)=false:=decide_eq_false c18
     clear c18
     by_cases c20:a1_4 > x6_6
     ·rw [if_pos c20] at H
      have c20b0:decide (x6_6 < a1_4)=true:=decide_eq_true c20
      clear c20
      obtain rfl:=Option.some.inj H
      have hcz21_0:wc.cell? ⟨gb398,0,none⟩=some (.bool a1_0):=(blk_cell BK398.out 0).trans rfl
      have hcz21_1:wc.cell? ⟨gb398,1,none⟩=some (.bool a1_1):=(blk_cell BK398.out 1).trans rfl
      have hcz21_2:wc.cell? ⟨gb398,2,none⟩=some (.int .i64 a1_2):=(blk_cell BK398.out 2).trans rfl
      have hcz21_3:wc.cell? ⟨gb398,3,none⟩=some (.int .i64 a1_3):=(blk_cell BK398.out 3).trans rfl
      have hcz21_4:wc.cell? ⟨gb398,4,none⟩=some (.int .i64 a1_4):=(blk_cell BK398.out 4).trans rfl
      have hcz21_5:wc.cell? ⟨gb398,5,none⟩=some (.slice A1_5 l1_5.length c1_5):=(blk_cell BK398.out 5).trans rfl
      have hfz21_0:=blk_frozen BK398.out 0
      have hfz21_1:=blk_frozen BK398.out 1
      have hfz21_2:=blk_frozen BK398.out 2
      have hfz21_3:=blk_frozen BK398.out 3
      have hfz21_4:=blk_frozen BK398.out 4
      have hfz21_5:=blk_frozen BK398.out 5
      go_wp2
      repeat (go_quiet (fail);try go_wp2)
      go_ret
      exact ⟨by first|rfl|(simp [errW_none,errW_some] <;> rfl)|(simp [*,errW_none,errW_some] <;> rfl),by repeat (first|(with_reducible first|exact HB.out|apply below_alloc|apply pw_below_drewN|apply below_drew1|refine below_set ?_ GE398.out)|exact HB.out)⟩
     ·rw [if_neg c20] at H
      have c20b0:decide (x6_6 < a1_4)=false:=decide_eq_false c20
      clear c20
      obtain rfl:=Option.some.inj H
      have hcz22_0:wc.cell? ⟨gb398,0,none⟩=some (.bool a1_0):=(blk_cell BK398.out 0).trans rfl
      have hcz22_1:wc.cell? ⟨gb398,1,none⟩=some (.bool a1_1):=(blk_cell BK398.out 1).trans rfl
      have hcz22_2:wc.cell? ⟨gb398,2,none⟩=some (.int .i64 a1_2):=(blk_cell BK398.out 2).trans rfl
      have hcz22_3:wc.cell? ⟨gb398,3,none⟩=some (.int .i64 a1_3):=(blk_cell BK398.out 3).trans rfl
      have hcz22_4:wc.cell? ⟨gb398,4,none⟩=some (.int .i64 a1_4):=(blk_cell BK398.out 4).trans rfl
      have hcz22_5:wc.cell? ⟨gb398,5,none⟩=some (.slice A1_5 l1_5.length c1_5):=(blk_cell BK398.out 5).trans rfl
      have hfz22_0:=blk_frozen BK398.out 0
      have hfz22_1:=blk_frozen BK398.out 1
      have hfz22_2:=blk_frozen BK398.out 2
      have hfz22_3:=blk_frozen BK398.out 3
      have hfz22_4:=blk_frozen BK398.out 4
      have hfz22_5:=blk_frozen BK398.out 5
      go_wp2
      repeat (go_quiet (fail);try go_wp2)
      go_ret
      exact ⟨by first|rfl|(simp [errW_none,errW_some] <;> rfl)|(simp [*,errW_none,errW_some] <;> rfl),by repeat (first|(with_reducible first|exact HB.out|apply below_alloc|apply pw_below_drewN|apply below_drew1|refine below_set ?_ GE398.out)|exact HB.out)⟩
end Go.Proofs.Ytkhmopmfbocokaa.T
namespace Go.Proofs.Ytkhmopmfbocokaa.T
open Go.RowKit Go.Proofs.YtkhmopmfbocokaaW.PrintWords Go.Proofs.YtkhmopmfbocokaaW.PrintLast Go.Proofs.YtkhmopmfbocokaaW.PrintMore
attribute [local go_sem] max2_int max_two
set_option linter.unusedVariables false
set_option linter.unusedSimpArgs false
def spec_ProducersCheck.f (k:Nat) (l0:List (S39)) (a1_0:Bool) (a1_1:Bool) (a1_2:Int) (a1_3:Int) (a1_4:Int) (l1_5:List (S79)):Option (Int):=(spec_ProducersValid.f k l0).bind fun t404=>(if t404=true then ((spec_BatchValid.f k a1_0 a1_1 a1_2 a1_3 a1_4 l1_5).bind fun t405=>(if t405=true then ((spec_l21Check.f k l0 a1_0 a1_1 a1_2 a1_3 a1_4 l1_5).bind fun t406=>(some t406)) else (some 5))) else (some 5))
set_option maxHeartbeats 8000000 in
set_option maxRecDepth 100000 in
theorem spec_ProducersCheck.calls (k:Nat) (A0:Option Addr) (c0:Nat) (l0:List (S39)) (a1_0:Bool) (a1_1:Bool) (a1_2:Int) (a1_3:Int) (a1_4:Int) (A1_5:Option Addr) (c1_5:Nat) (l1_5:List (S79)) (r:Int) (w:World) (hr0:Kd.C k39 w A0 l0.length l0) (hc0:l0.length ≤ c0) (hr1_5:Kd.C k79 w A1_5 l1_5.length l1_5) (hc1_5:l1_5.length ≤ c1_5) (h:spec_ProducersCheck.f k l0 a1_0 a1_1 a1_2 a1_3 a1_4 l1_5=some r) :
  Calls Try.prog 26 #[.slice A0 l0.length c0,.agg #[.bool a1_0,.bool a1_1,.int .i64 a1_2,.int .i64 a1_3,.int .i64 a1_4,.slice A1_5 l1_5.length c1_5]] w fun e w'=>e = .returned (.int .i64 r)∧Below w.heap.size w w':=by
 have hu34:=Try.underlying34
 have HR0:=Aside0.mk hr0
 have HC0:=Aside0.mk hc0
 clear hr0 hc0
 have HR1_5:=Aside0.mk hr1_5
 have HC1_5:=Aside0.mk hc1_5
 clear hr1_5 hc1_5
 have HB:=Aside0.mk (Below.refl w.heap.size w)
 have H:((spec_ProducersValid.f k l0).bind fun t404=>(if t404=true then ((spec_BatchValid.f k a1_0 a1_1 a1_2 a1_3 a1_4 l1_5).bind fun t405=>(if t405=true then ((spec_l21Check.f k l0 a1_0 a1_1 a1_2 a1_3 a1_4 l1_5).bind fun t406=>(some t406)) else (some 5))) else (some 5)))=some r:=h
 clear h
 replace H:=Option.bind_eq_some_iff.mp H
 obtain ⟨t404,A30,H⟩:=H
 replace H:(if t404=true then ((spec_BatchValid.f k a1_0 a1_1 a1_2 a1_3 a1_4 l1_5).bind fun t405=>(if t405=true then ((spec_l21Check.f k l0 a1_0 a1_1 a1_2 a1_3 a1_4 l1_5).bind fun t406=>(some t406)) else (some 5))) else (some 5))=some r:=H
 have A3:=Aside0.mk A30
 clear A30
 by_cases c4:t404=true
 ·subst c4
  have H1:((spec_BatchValid.f k a1_0 a1_1 a1_2 a1_3 a1_4 l1_5).bind fun t405=>(if t405=true then ((spec_l21Check.f k l0 a1_0 a1_1 a1_2 a1_3 a1_4 l1_5).bind fun t406=>(some t406)) else (some 5)))=some r:=by rw [if_pos rfl] at H;exact H
  clear H
  have H:=H1
  clear H1
  replace H:=Option.bind_eq_some_iff.mp H
  obtain ⟨t405,A50,H⟩:=H
  replace H:(if t405=true then ((spec_l21Check.f k l0 a1_0 a1_1 a1_2 a1_3 a1_4 l1_5).bind fun t406=>(some t406)) else (some 5))=some r:=H
  have A5:=Aside0.mk A50
  clear A50
  by_cases c6:t405=true
  ·subst c6
   have H1:((spec_l21Check.f k l0 a1_0 a1_1 a1_2 a1_3 a1_4 l1_5).bind fun t406=>(some t406))=some r:=by rw [if_pos rfl] at H;exact H
   clear H
   have H:=H1
   clear H1
   replace H:=Option.bind_eq_some_iff.mp H
   obtain ⟨t406,A70,H⟩:=H
   replace H:(some t406)=some r:=H
   have A7:=Aside0.mk A70
   clear A70
   obtain rfl:=Option.some.inj H
   go_enter Try.func26,Try.ntmps26
   go_wp2_with (first|((with_reducible refine gate_dst (N:=3) rfl ?_);refine box_event ?hg (N:=3) ?hd (cs:=#[.bool a1_0,.bool a1_1,.int .i64 a1_2,.int .i64 a1_3,.int .i64 a1_4,.slice A1_5 l1_5.length c1_5]) (t:=34) ?hr ?_;(case hd=>rfl);(case hg=>rfl);(case hr=>first|(go_simp;done)|(go_simp;rfl));intro gb403 hg w8 hbox hb;have n0_:=Aside0.mk (below_step (by repeat (first|(with_reducible first|exact HB.out|apply below_alloc|apply pw_below_drewN|apply below_drew1)|exact HB.out)) hb);have n1_:=Aside0.mk (hbox);have n2_:=Aside0.mk ((by rw [hg];exact (below_size (by repeat (first|(with_reducible first|exact HB.out|apply below_alloc|apply pw_below_drewN|apply below_drew1)|exact HB.out))):w.heap.size ≤ gb403));have n3_:=Aside0.mk ((by rw [hg];exact (below_size (by repeat (first|(with_reducible first|exact HB.out|apply below_alloc|apply pw_below_drewN|apply below_drew1)|exact HB.out))):w.heap.size ≤ gb403));clear HB;have HB:=n0_;have BK403:=n1_;have GW403:=n2_;have GE403:=n3_;clear n0_ n1_ n2_ n3_;clear hb hbox hg)|((with_reducible refine gate_callee (f:=20) rfl ?_);refine goesL_ (some 6) rfl rfl Try.func20 (by kernel_rfl) rfl #[.slice A0 l0.length c0] rfl (by (try simp only [map_toArray,map_cons,map_nil]);first|done|rfl|(simp only [length_drop,length_take];rfl)) ?_;(with_reducible refine (spec_ProducersValid.calls k _ _ l0 true _ ?side1 ?side2 A3.out).mono ?_);(case side1=>repeat (first|exact (Kd.C_below HR0.out HB.out)|(with_reducible refine Kd.C_alloc ?_ _)|(with_reducible refine Kd.C_drewN ?_ _)|(with_reducible refine Kd.C_drew ?_)));(case side2=>exact HC0.out);rintro e w9 ⟨rfl,hb⟩;refine ⟨_,rfl,?_⟩;have n0_:=Aside0.mk (blk_below (g:=gb403) (o:=.cells #[.bool a1_0,.bool a1_1,.int .i64 a1_2,.int .i64 a1_3,.int .i64 a1_4,.slice A1_5 l1_5.length c1_5] 34 (0,0)) (by (with_reducible repeat (first|refine blk_drewN ?_ _|refine blk_drew ?_|refine blk_alloc ?_ _));exact BK403.out) hb);have n1_:=Aside0.mk (below_step (by repeat (first|(with_reducible first|exact HB.out|apply below_alloc|apply pw_below_drewN|apply below_drew1|refine below_set ?_ GE403.out)|exact HB.out)) hb);clear BK403 HB;have BK403:=n0_;have HB:=n1_;clear n0_ n1_;(try clear hb);(try clear hb2);(try clear hk);(try clear hi);have hcz10_0:w9.cell? ⟨gb403,0,none⟩=some (.bool a1_0):=(blk_cell BK403.out 0).trans rfl;have hcz10_1:w9.cell? ⟨gb403,1,none⟩=some (.bool a1_1):=(blk_cell BK403.out 1).trans rfl;have hcz10_2:w9.cell? ⟨gb403,2,none⟩=some (.int .i64 a1_2):=(blk_cell BK403.out 2).trans rfl;have hcz10_3:w9.cell? ⟨gb403,3,none⟩=some (.int .i64 a1_3):=(blk_cell BK403.out 3).trans rfl;have hcz10_4:w9.cell? ⟨gb403,4,none⟩=some (.int .i64 a1_4):=(blk_cell BK403.out 4).trans rfl;have hcz10_5:w9.cell? ⟨gb403,5,none⟩=some (.slice A1_5 l1_5.length c1_5):=(blk_cell BK403.out 5).trans rfl;have hfz10_0:=blk_frozen BK403.out 0;have hfz10_1:=blk_frozen BK403.out 1;have hfz10_2:=blk_frozen BK403.out 2;have hfz10_3:=blk_frozen BK403.out 3;have hfz10_4:=blk_frozen BK403.out 4;have hfz10_5:=blk_frozen BK403.out 5)|(go_at_call 59;(with_reducible refine (spec_BatchValid.calls k a1_0 a1_1 a1_2 a1_3 a1_4 _ _ l1_5 true _ ?side1 ?side2 A5.out).mono ?_);(case side1=>repeat (first|exact (Kd.C_below HR1_5.out HB.out)|(with_reducible refine Kd.C_alloc ?_ _)|(with_reducible refine Kd.C_drewN ?_ _)|(with_reducible refine Kd.C_drew ?_)));(case side2=>exact HC1_5.out);rintro e w11 ⟨rfl,hb⟩;have n0_:=Aside0.mk (blk_below (g:=gb403) (o:=.cells #[.bool a1_0,.bool a1_1,.int .i64 a1_2,.int .i64 a1_3,.int .i64 a1_4,.slice A1_5 l1_5.length c1_5] 34 (0,0)) (by (with_reducible repeat (first|refine blk_drewN ?_ _|refine blk_drew ?_|refine blk_alloc ?_ _));exact BK403.out) hb);have n1_:=Aside0.mk (below_step (by repeat (first|(with_reducible first|exact HB.out|apply below_alloc|apply pw_below_drewN|apply below_drew1|refine below_set ?_ GE403.out)|exact HB.out)) hb);clear BK403 HB;have BK403:=n0_;have HB:=n1_;clear n0_ n1_;(try clear hb);(try clear hb2);(try clear hk);(try clear hi);have hcz12_0:w11.cell? ⟨gb403,0,none⟩=some (.bool a1_0):=(blk_cell BK403.out 0).trans rfl;have hcz12_1:w11.cell? ⟨gb403,1,none⟩=some (.bool a1_1):=(blk_cell BK403.out 1).trans rfl;have hcz12_2:w11.cell? ⟨gb403,2,none⟩=some (.int .i64 a1_2):=(blk_cell BK403.out 2).trans rfl;have hcz12_3:w11.cell? ⟨gb403,3,none⟩=some (.int .i64 a1_3):=(blk_cell BK403.out 3).trans rfl;have hcz12_4:w11.cell? ⟨gb403,4,none⟩=some (.int .i64 a1_4):=(blk_cell BK403.out 4).trans rfl;have hcz12_5:w11.cell? ⟨gb403,5,none⟩=some (.slice A1_5 l1_5.length c1_5):=(blk_cell BK403.out 5).trans rfl;have hfz12_0:=blk_frozen BK403.out 0;have hfz12_1:=blk_frozen BK403.out 1;have hfz12_2:=blk_frozen BK403.out 2;have hfz12_3:=blk_frozen BK403.out 3;have hfz12_4:=blk_frozen BK403.out 4;have hfz12_5:=blk_frozen BK403.out 5)|((with_reducible refine gate_callee (f:=60) rfl ?_);refine goesL_ (some 15) rfl rfl Try.func60 (by kernel_rfl) rfl #[.slice A0 l0.length c0,.agg #[.bool a1_0,.bool a1_1,.int .i64 a1_2,.int .i64 a1_3,.int .i64 a1_4,.slice A1_5 l1_5.length c1_5]] rfl (by (try simp only [map_toArray,map_cons,map_nil]);first|done|rfl|(simp only [length_drop,length_take];rfl)) ?_;(with_reducible refine (spec_l21Check.calls k _ _ l0 a1_0 a1_1 a1_2 a1_3 a1_4 _ _ l1_5 t406 _ ?side1 ?side2 ?side3 ?side4 A7.out).mono ?_);(case side1=>repeat (first|exact (Kd.C_below HR0.out HB.out)|(with_reducible refine Kd.C_alloc ?_ _)|(with_reducible refine Kd.C_drewN ?_ _)|(with_reducible refine Kd.C_drew ?_)));(case side2=>exact HC0.out);(case side3=>repeat (first|exact (Kd.C_below HR1_5.out HB.out)|(with_reducible refine Kd.C_alloc ?_ _)|(with_reducible refine Kd.C_drewN ?_ _)|(with_reducible refine Kd.C_drew ?_)));(case side4=>exact HC1_5.out);rintro e w13 ⟨rfl,hb⟩;refine ⟨_,rfl,?_⟩;have n0_:=Aside0.mk (blk_below (g:=gb403) (o:=.cells #[.bool a1_0,.bool a1_1,.int .i64 a1_2,.int .i64 a1_3,.int .i64 a1_4,.slice A1_5 l1_5.length c1_5] 34 (0,0)) (by (with_reducible repeat (first|refine blk_drewN ?_ _|refine blk_drew ?_|refine blk_alloc ?_ _));exact BK403.out) hb);have n1_:=Aside0.mk (below_step (by repeat (first|(with_reducible first|exact HB.out|apply below_alloc|apply pw_below_drewN|apply below_drew1|refine below_set ?_ GE403.out)|exact HB.out)) hb);clear BK403 HB;have BK403:=n0_;have HB:=n1_;clear n0_ n1_;(try clear hb);(try clear hb2);(try clear hk);(try clear hi)))
   go_ret
   exact ⟨by first|rfl|(simp [errW_none,errW_some] <;> rfl)|(simp [*,errW_none,errW_some] <;> rfl),by repeat (first|(with_reducible first|exact HB.out|apply below_alloc|apply pw_below_drewN|apply below_drew1|refine below_set ?_ GE403.out)|exact HB.out)⟩
  ·replace c6:=Bool.eq_false_iff.mpr c6
   subst c6
   have H1:(some 5)=some r:=by rw [if_neg (show ¬ (false=true) by decide)] at H;exact H
   clear H
   have H:=H1
   clear H1
   obtain rfl:=Option.some.inj H
   go_enter Try.func26,Try.ntmps26
   go_wp2_with (first|((with_reducible refine gate_dst (N:=3) rfl ?_);refine box_event ?hg (N:=3) ?hd (cs:=#[.bool a1_0,.bool a1_1,.int .i64 a1_2,.int .i64 a1_3,.int .i64 a1_4,.slice A1_5 l1_5.length c1_5]) (t:=34) ?hr ?_;(case hd=>rfl);(case hg=>rfl);(case hr=>first|(go_simp;done)|(go_simp;rfl));intro gb403 hg w14 hbox hb;have n0_:=Aside0.mk (below_step (by repeat (first|(with_reducible first|exact HB.out|apply below_alloc|apply pw_below_drewN|apply below_drew1)|exact HB.out)) hb);have n1_:=Aside0.mk (hbox);have n2_:=Aside0.mk ((by rw [hg];exact (below_size (by repeat (first|(with_reducible first|exact HB.out|apply below_alloc|apply pw_below_drewN|apply below_drew1)|exact HB.out))):w.heap.size ≤ gb403));have n3_:=Aside0.mk ((by rw [hg];exact (below_size (by repeat (first|(with_reducible first|exact HB.out|apply below_alloc|apply pw_below_drewN|apply below_drew1)|exact HB.out))):w.heap.size ≤ gb403));clear HB;have HB:=n0_;have BK403:=n1_;have GW403:=n2_;have GE403:=n3_;clear n0_ n1_ n2_ n3_;clear hb hbox hg)|((with_reducible refine gate_callee (f:=20) rfl ?_);refine goesL_ (some 6) rfl rfl Try.func20 (by kernel_rfl) rfl #[.slice A0 l0.length c0] rfl (by (try simp only [map_toArray,map_cons,map_nil]);first|done|rfl|(simp only [length_drop,length_take];rfl)) ?_;(with_reducible refine (spec_ProducersValid.calls k _ _ l0 true _ ?side1 ?side2 A3.out).mono ?_);(case side1=>repeat (first|exact (Kd.C_below HR0.out HB.out)|(with_reducible refine Kd.C_alloc ?_ _)|(with_reducible refine Kd.C_drewN ?_ _)|(with_reducible refine Kd.C_drew ?_)));(case side2=>exact HC0.out);rintro e w15 ⟨rfl,hb⟩;refine ⟨_,rfl,?_⟩;have n0_:=Aside0.mk (blk_below (g:=gb403) (o:=.cells #[.bool a1_0,.bool a1_1,.int .i64 a1_2,.int .i64 a1_3,.int .i64 a1_4,.slice A1_5 l1_5.length c1_5] 34 (0,0)) (by (with_reducible repeat (first|refine blk_drewN ?_ _|refine blk_drew ?_|refine blk_alloc ?_ _));exact BK403.out) hb);have n1_:=Aside0.mk (below_step (by repeat (first|(with_reducible first|exact HB.out|apply below_alloc|apply pw_below_drewN|apply below_drew1|refine below_set ?_ GE403.out)|exact HB.out)) hb);clear BK403 HB;have BK403:=n0_;have HB:=n1_;clear n0_ n1_;(try clear hb);(try clear hb2);(try clear hk);(try clear hi);have hcz16_0:w15.cell? ⟨gb403,0,none⟩=some (.bool a1_0):=(blk_cell BK403.out 0).trans rfl;have hcz16_1:w15.cell? ⟨gb403,1,none⟩=some (.bool a1_1):=(blk_cell BK403.out 1).trans rfl;have hcz16_2:w15.cell? ⟨gb403,2,none⟩=some (.int .i64 a1_2):=(blk_cell BK403.out 2).trans rfl;have hcz16_3:w15.cell? ⟨gb403,3,none⟩=some (.int .i64 a1_3):=(blk_cell BK403.out 3).trans rfl;have hcz16_4:w15.cell? ⟨gb403,4,none⟩=some (.int .i64 a1_4):=(blk_cell BK403.out 4).trans rfl;have hcz16_5:w15.cell? ⟨gb403,5,none⟩=some (.slice A1_5 l1_5.length c1_5):=(blk_cell BK403.out 5).trans rfl;have hfz16_0:=blk_frozen BK403.out 0;have hfz16_1:=blk_frozen BK403.out 1;have hfz16_2:=blk_frozen BK403.out 2;have hfz16_3:=blk_frozen BK403.out 3;have hfz16_4:=blk_frozen BK403.out 4;have hfz16_5:=blk_frozen BK403.out 5)|(go_at_call 59;(with_reducible refine (spec_BatchValid.calls k a1_0 a1_1 a1_2 a1_3 a1_4 _ _ l1_5 false _ ?side1 ?side2 A5.out).mono ?_);(case side1=>repeat (first|exact (Kd.C_below HR1_5.out HB.out)|(with_reducible refine Kd.C_alloc ?_ _)|(with_reducible refine Kd.C_drewN ?_ _)|(with_reducible refine Kd.C_drew ?_)));(case side2=>exact HC1_5.out);rintro e w17 ⟨rfl,hb⟩;have n0_:=Aside0.mk (blk_below (g:=gb403) (o:=.cells #[.bool a1_0,.bool a1_1,.int .i64 a1_2,.int .i64 a1_3,.int .i64 a1_4,.slice A1_5 l1_5.length c1_5] 34 (0,0)) (by (with_reducible repeat (first|refine blk_drewN ?_ _|refine blk_drew ?_|refine blk_alloc ?_ _));exact BK403.out) hb);have n1_:=Aside0.mk (below_step (by repeat (first|(with_reducible first|exact HB.out|apply below_alloc|apply pw_below_drewN|apply below_drew1|refine below_set ?_ GE403.out)|exact HB.out)) hb);clear BK403 HB;have BK403:=n0_;have HB:=n1_;clear n0_ n1_;(try clear hb);(try clear hb2);(try clear hk);(try clear hi)))
   go_ret
   exact ⟨by first|rfl|(simp [errW_none,errW_some] <;> rfl)|(simp [*,errW_none,errW_some] <;> rfl),by repeat (first|(with_reducible first|exact HB.out|apply below_alloc|apply pw_below_drewN|apply below_drew1|refine below_set ?_ GE403.out)|exact HB.out)⟩
 ·replace c4:=Bool.eq_false_iff.mpr c4
  subst c4
  have H1:(some 5)=some r:=by rw [if_neg (show ¬ (false=true) by decide)] at H;exact H
  clear H
  have H:=H1
  clear H1
  obtain rfl:=Option.some.inj H
  go_enter Try.func26,Try.ntmps26
  go_wp2_with (first|((with_reducible refine gate_dst (N:=3) rfl ?_);refine box_event ?hg (N:=3) ?hd (cs:=#[.bool a1_0,.bool a1_1,.int .i64 a1_2,.int .i64 a1_3,.int .i64 a1_4,.slice A1_5 l1_5.length c1_5]) (t:=34) ?hr ?_;(case hd=>rfl);(case hg=>rfl);(case hr=>first|(go_simp;done)|(go_simp;rfl));intro gb403 hg w18 hbox hb;have n0_:=Aside0.mk (below_step (by repeat (first|(with_reducible first|exact HB.out|apply below_alloc|apply pw_below_drewN|apply below_drew1)|exact HB.out)) hb);have n1_:=Aside0.mk (hbox);have n2_:=Aside0.mk ((by rw [hg];exact (below_size (by repeat (first|(with_reducible first|exact HB.out|apply below_alloc|apply pw_below_drewN|apply below_drew1)|exact HB.out))):w.heap.size ≤ gb403));have n3_:=Aside0.mk ((by rw [hg];exact (below_size (by repeat (first|(with_reducible first|exact HB.out|apply below_alloc|apply pw_below_drewN|apply below_drew1)|exact HB.out))):w.heap.size ≤ gb403));clear HB;have HB:=n0_;have BK403:=n1_;have GW403:=n2_;have GE403:=n3_;clear n0_ n1_ n2_ n3_;clear hb hbox hg)|((with_reducible refine gate_callee (f:=20) rfl ?_);refine goesL_ (some 6) rfl rfl Try.func20 (by kernel_rfl) rfl #[.slice A0 l0.length c0] rfl (by (try simp only [map_toArray,map_cons,map_nil]);first|done|rfl|(simp only [length_drop,length_take];rfl)) ?_;(with_reducible refine (spec_ProducersValid.calls k _ _ l0 false _ ?side1 ?side2 A3.out).mono ?_);(case side1=>repeat (first|exact (Kd.C_below HR0.out HB.out)|(with_reducible refine Kd.C_alloc ?_ _)|(with_reducible refine Kd.C_drewN ?_ _)|(with_reducible refine Kd.C_drew ?_)));(case side2=>exact HC0.out);rintro e w19 ⟨rfl,hb⟩;refine ⟨_,rfl,?_⟩;have n0_:=Aside0.mk (blk_below (g:=gb403) (o:=.cells #[.bool a1_0,.bool a1_1,.int .i64 a1_2,.int .i64 a1_3,.int .i64 a1_4,.slice A1_5 l1_5.length c1_5] 34 (0,0)) (by (with_reducible repeat (first|refine blk_drewN ?_ _|refine blk_drew ?_|refine blk_alloc ?_ _));exact BK403.out) hb);have n1_:=Aside0.mk (below_step (by repeat (first|(with_reducible first|exact HB.out|apply below_alloc|apply pw_below_drewN|apply below_drew1|refine below_set ?_ GE403.out)|exact HB.out)) hb);clear BK403 HB;have BK403:=n0_;have HB:=n1_;clear n0_ n1_;(try clear hb);(try clear hb2);(try clear hk);(try clear hi)))
  go_ret
  exact ⟨by first|rfl|(simp [errW_none,errW_some] <;> rfl)|(simp [*,errW_none,errW_some] <;> rfl),by repeat (first|(with_reducible first|exact HB.out|apply below_alloc|apply pw_below_drewN|apply below_drew1|refine below_set ?_ GE403.out)|exact HB.out)⟩
end Go.Proofs.Ytkhmopmfbocokaa.T
namespace Go.Proofs.Ytkhmopmfbocokaa.T
open Go.RowKit Go.Proofs.YtkhmopmfbocokaaW.PrintWords Go.Proofs.YtkhmopmfbocokaaW.PrintLast Go.Proofs.YtkhmopmfbocokaaW.PrintMore
attribute [local go_sem] max2_int max_two
set_option linter.unusedVariables false
set_option linter.unusedSimpArgs false
mutual
def spec_l21Put.l0:Nat→List (S39)→List (S39)→Bool→Int→Int→Int→Int→Option ((List (S39)))
 | 0,_,_,_,_,_,_,_=>none
 | k+1,x0,x5,x6,x7,x493000,x493001,x493002=>if x7 < (x0.length:Int) then (if x6=true then (spec_l21Put.j1 k x0 x5 x6 x7 false x493000 x493001 x493002) else (if 0 ≤ x7 then (spec_l21Put.j1 k x0 x5 x6 x7 (decide (((rd_T39 x0 x7).f0) ≥ x493000)) x493000 x493001 x493002) else (none))) else (if x6=true then (some x5) else (if x5.length < 5864062014805 then (some (x5 ++ [(⟨x493000,x493001,x493002⟩:S39)])) else (none)))
def spec_l21Put.j1:Nat→List (S39)→List (S39)→Bool→Int→Bool→Int→Int→Int→Option ((List (S39)))
 | 0,_,_,_,_,_,_,_,_=>none
 | k+1,x0,x5,x6,x7,x26,x493000,x493001,x493002=>if x26=true then (if x5.length < 5864062014805 then ((some (x5 ++ [(⟨x493000,x493001,x493002⟩:S39)]:List (S39))).bind fun y500=>(if 0 ≤ x7 then (if x7 < (x0.length:Int) then (if ((rd_T39 x0 x7).f0)=x493000 then (spec_l21Put.l0 k x0 y500 true (wrap64 (x7+1)) x493000 x493001 x493002) else (if y500.length < 5864062014805 then (spec_l21Put.l0 k x0 (y500 ++ [(⟨(rd_T39 x0 x7).f0,(rd_T39 x0 x7).f1,(rd_T39 x0 x7).f2⟩:S39)]) true (wrap64 (x7+1)) x493000 x493001 x493002) else (none))) else (none)) else (none))) else (none)) else (if 0 ≤ x7 then (if x7 < (x0.length:Int) then (if ((rd_T39 x0 x7).f0)=x493000 then (spec_l21Put.l0 k x0 x5 x6 (wrap64 (x7+1)) x493000 x493001 x493002) else (if x5.length < 5864062014805 then (spec_l21Put.l0 k x0 (x5 ++ [(⟨(rd_T39 x0 x7).f0,(rd_T39 x0 x7).f1,(rd_T39 x0 x7).f2⟩:S39)]) x6 (wrap64 (x7+1)) x493000 x493001 x493002) else (none))) else (none)) else (none))
end
def spec_l21Put.f (k:Nat) (l0:List (S39)) (a1_0:Int) (a1_1:Int) (a1_2:Int):Option ((List (S39))):=spec_l21Put.l0 k l0 (([]:List (S39))) false 0 a1_0 a1_1 a1_2
set_option maxHeartbeats 8000000 in
set_option maxRecDepth 100000 in
theorem spec_l21Put.calls (k:Nat) (A0:Option Addr) (c0:Nat) (l0:List (S39)) (a1_0:Int) (a1_1:Int) (a1_2:Int) (r:List (S39)) (w:World) (hr0:Kd.C k39 w A0 l0.length l0) (hc0:l0.length ≤ c0) (h:spec_l21Put.f k l0 a1_0 a1_1 a1_2=some r) :
  Calls Try.prog 63 #[.slice A0 l0.length c0,.agg #[.int .i64 a1_0,.int .i64 a1_1,.int .i64 a1_2]] w fun e w'=>∃ v0_:Value,e = .returned (v0_)∧Kd.R k39 39 w' w.heap.size (fun _=>True) v0_ r∧Below w.heap.size w w':=by
 have hu39:=Try.underlying39
 have HR0:=Aside0.mk hr0
 have HC0:=Aside0.mk hc0
 clear hr0 hc0
 have HB:=Aside0.mk (Below.refl w.heap.size w)
 have H:(spec_l21Put.l0 k l0 (([]:List (S39))) false 0 a1_0 a1_1 a1_2)=some r:=h
 clear h
 obtain ⟨y493,hy493⟩:∃ y_:List (S39),y_=(([]:List (S39))):=⟨_,rfl⟩
 replace H:(spec_l21Put.l0 k l0 y493 false 0 a1_0 a1_1 a1_2)=some r:=by first|(rw [hy493];with_reducible exact H)|(have H2_:=(Option.bind_some _ _).symm.trans H;rw [hy493];with_reducible exact H2_)|(have H2_:=(Option.bind_some _ _).symm.trans H;with_reducible exact H2_)|with_reducible exact H|(rw [hy493];exact H)|exact H
 have Ny493:=Aside0.mk hy493
 clear hy493
 have H':=Aside0.mk H
 clear H
 go_enter Try.func63,Try.ntmps63
 go_wp2_with (first|((with_reducible refine gate_dst (N:=3) rfl ?_);refine box_event ?hg (N:=3) ?hd (cs:=#[.int .i64 a1_0,.int .i64 a1_1,.int .i64 a1_2]) (t:=39) ?hr ?_;(case hd=>rfl);(case hg=>rfl);(case hr=>first|(go_simp;done)|(go_simp;rfl));intro gb492 hg w3 hbox hb;have n0_:=Aside0.mk (below_step (by repeat (first|(with_reducible first|exact HB.out|apply below_alloc|apply pw_below_drewN|apply below_drew1)|exact HB.out)) hb);have n1_:=Aside0.mk (hbox);have n2_:=Aside0.mk ((by rw [hg];exact (below_size (by repeat (first|(with_reducible first|exact HB.out|apply below_alloc|apply pw_below_drewN|apply below_drew1)|exact HB.out))):w.heap.size ≤ gb492));have n3_:=Aside0.mk ((by rw [hg];exact (below_size (by repeat (first|(with_reducible first|exact HB.out|apply below_alloc|apply pw_below_drewN|apply below_drew1)|exact HB.out))):w.heap.size ≤ gb492));clear HB;have HB:=n0_;have BK492:=n1_;have GW492:=n2_;have GE492:=n3_;clear n0_ n1_ n2_ n3_;clear hb hbox hg)|((with_reducible refine gate_dst (N:=8) rfl ?_);refine Kd.R_lit k39 _ 39 ?hg (N:=8) ?hd (xs:=([]:List (S39))) (inner:=[]) (ok:=fun _=>True) (okp:=fun _=>True) ?hr ?hp (fun _ hk=>hk) trivial (Below.refl _ _) (Nat.le_refl _) (by simp) ?_;(case hd=>rfl);(case hg=>rfl);(case hr=>first|(go_simp;done)|(go_simp;rfl));(case hp=>exact (Reps.none _ _));intro v494 w4 ho5 hb hg_ hnew_;clear hg_ hnew_;(first|rw [← Ny493.out] at ho5|(simp only [Int.reduceToNat] at ho5;rw [← Ny493.out] at ho5));have n0_:=Aside0.mk (Kd.R_lower (Kd.R_newB ho5 (g:=gb492) (o:=.cells #[.int .i64 a1_0,.int .i64 a1_1,.int .i64 a1_2] 39 (0,0)) (by (with_reducible repeat (first|refine blk_drewN ?_ _|refine blk_drew ?_|refine blk_alloc ?_ _));exact BK492.out)) (below_size (by repeat (first|(with_reducible first|exact HB.out|apply below_alloc|apply pw_below_drewN|apply below_drew1|refine below_set ?_ GE492.out)|exact HB.out))));have n1_:=Aside0.mk (blk_below (g:=gb492) (o:=.cells #[.int .i64 a1_0,.int .i64 a1_1,.int .i64 a1_2] 39 (0,0)) (by (with_reducible repeat (first|refine blk_drewN ?_ _|refine blk_drew ?_|refine blk_alloc ?_ _));exact BK492.out) hb);have n2_:=Aside0.mk (below_step (by repeat (first|(with_reducible first|exact HB.out|apply below_alloc|apply pw_below_drewN|apply below_drew1|refine below_set ?_ GE492.out)|exact HB.out)) hb);clear BK492 HB;have HO495:=n0_;have BK492:=n1_;have HB:=n2_;clear n0_ n1_ n2_;clear hb ho5))
 repeat (go_quiet (first|((with_reducible refine gate_dst (N:=3) rfl ?_);refine box_event ?hg (N:=3) ?hd (cs:=#[.int .i64 a1_0,.int .i64 a1_1,.int .i64 a1_2]) (t:=39) ?hr ?_;(case hd=>rfl);(case hg=>rfl);(case hr=>first|(go_simp;done)|(go_simp;rfl));intro gb492 hg w3 hbox hb;have n0_:=Aside0.mk (below_step (by repeat (first|(with_reducible first|exact HB.out|apply below_alloc|apply pw_below_drewN|apply below_drew1)|exact HB.out)) hb);have n1_:=Aside0.mk (hbox);have n2_:=Aside0.mk ((by rw [hg];exact (below_size (by repeat (first|(with_reducible first|exact HB.out|apply below_alloc|apply pw_below_drewN|apply below_drew1)|exact HB.out))):w.heap.size ≤ gb492));have n3_:=Aside0.mk ((by rw [hg];exact (below_size (by repeat (first|(with_reducible first|exact HB.out|apply below_alloc|apply pw_below_drewN|apply below_drew1)|exact HB.out))):w.heap.size ≤ gb492));clear HB;have HB:=n0_;have BK492:=n1_;have GW492:=n2_;have GE492:=n3_;clear n0_ n1_ n2_ n3_;clear hb hbox hg)|((with_reducible refine gate_dst (N:=8) rfl ?_);refine Kd.R_lit k39 _ 39 ?hg (N:=8) ?hd (xs:=([]:List (S39))) (inner:=[]) (ok:=fun _=>True) (okp:=fun _=>True) ?hr ?hp (fun _ hk=>hk) trivial (Below.refl _ _) (Nat.le_refl _) (by simp) ?_;(case hd=>rfl);(case hg=>rfl);(case hr=>first|(go_simp;done)|(go_simp;rfl));(case hp=>exact (Reps.none _ _));intro v494 w4 ho5 hb hg_ hnew_;clear hg_ hnew_;(first|rw [← Ny493.out] at ho5|(simp only [Int.reduceToNat] at ho5;rw [← Ny493.out] at ho5));have n0_:=Aside0.mk (Kd.R_lower (Kd.R_newB ho5 (g:=gb492) (o:=.cells #[.int .i64 a1_0,.int .i64 a1_1,.int .i64 a1_2] 39 (0,0)) (by (with_reducible repeat (first|refine blk_drewN ?_ _|refine blk_drew ?_|refine blk_alloc ?_ _));exact BK492.out)) (below_size (by repeat (first|(with_reducible first|exact HB.out|apply below_alloc|apply pw_below_drewN|apply below_drew1|refine below_set ?_ GE492.out)|exact HB.out))));have n1_:=Aside0.mk (blk_below (g:=gb492) (o:=.cells #[.int .i64 a1_0,.int .i64 a1_1,.int .i64 a1_2] 39 (0,0)) (by (with_reducible repeat (first|refine blk_drewN ?_ _|refine blk_drew ?_|refine blk_alloc ?_ _));exact BK492.out) hb);have n2_:=Aside0.mk (below_step (by repeat (first|(with_reducible first|exact HB.out|apply below_alloc|apply pw_below_drewN|apply below_drew1|refine below_set ?_ GE492.out)|exact HB.out)) hb);clear BK492 HB;have HO495:=n0_;have BK492:=n1_;have HB:=n2_;clear n0_ n1_ n2_;clear hb ho5));try go_wp2_with (first|((with_reducible refine gate_dst (N:=3) rfl ?_);refine box_event ?hg (N:=3) ?hd (cs:=#[.int .i64 a1_0,.int .i64 a1_1,.int .i64 a1_2]) (t:=39) ?hr ?_;(case hd=>rfl);(case hg=>rfl);(case hr=>first|(go_simp;done)|(go_simp;rfl));intro gb492 hg w3 hbox hb;have n0_:=Aside0.mk (below_step (by repeat (first|(with_reducible first|exact HB.out|apply below_alloc|apply pw_below_drewN|apply below_drew1)|exact HB.out)) hb);have n1_:=Aside0.mk (hbox);have n2_:=Aside0.mk ((by rw [hg];exact (below_size (by repeat (first|(with_reducible first|exact HB.out|apply below_alloc|apply pw_below_drewN|apply below_drew1)|exact HB.out))):w.heap.size ≤ gb492));have n3_:=Aside0.mk ((by rw [hg];exact (below_size (by repeat (first|(with_reducible first|exact HB.out|apply below_alloc|apply pw_below_drewN|apply below_drew1)|exact HB.out))):w.heap.size ≤ gb492));clear HB;have HB:=n0_;have BK492:=n1_;have GW492:=n2_;have GE492:=n3_;clear n0_ n1_ n2_ n3_;clear hb hbox hg)|((with_reducible refine gate_dst (N:=8) rfl ?_);refine Kd.R_lit k39 _ 39 ?hg (N:=8) ?hd (xs:=([]:List (S39))) (inner:=[]) (ok:=fun _=>True) (okp:=fun _=>True) ?hr ?hp (fun _ hk=>hk) trivial (Below.refl _ _) (Nat.le_refl _) (by simp) ?_;(case hd=>rfl);(case hg=>rfl);(case hr=>first|(go_simp;done)|(go_simp;rfl));(case hp=>exact (Reps.none _ _));intro v494 w4 ho5 hb hg_ hnew_;clear hg_ hnew_;(first|rw [← Ny493.out] at ho5|(simp only [Int.reduceToNat] at ho5;rw [← Ny493.out] at ho5));have n0_:=Aside0.mk (Kd.R_lower (Kd.R_newB ho5 (g:=gb492) (o:=.cells #[.int .i64 a1_0,.int .i64 a1_1,.int .i64 a1_2] 39 (0,0)) (by (with_reducible repeat (first|refine blk_drewN ?_ _|refine blk_drew ?_|refine blk_alloc ?_ _));exact BK492.out)) (below_size (by repeat (first|(with_reducible first|exact HB.out|apply below_alloc|apply pw_below_drewN|apply below_drew1|refine below_set ?_ GE492.out)|exact HB.out))));have n1_:=Aside0.mk (blk_below (g:=gb492) (o:=.cells #[.int .i64 a1_0,.int .i64 a1_1,.int .i64 a1_2] 39 (0,0)) (by (with_reducible repeat (first|refine blk_drewN ?_ _|refine blk_drew ?_|refine blk_alloc ?_ _));exact BK492.out) hb);have n2_:=Aside0.mk (below_step (by repeat (first|(with_reducible first|exact HB.out|apply below_alloc|apply pw_below_drewN|apply below_drew1|refine below_set ?_ GE492.out)|exact HB.out)) hb);clear BK492 HB;have HO495:=n0_;have BK492:=n1_;have HB:=n2_;clear n0_ n1_ n2_;clear hb ho5)))
 go_loopg [5,6,7] k (fun kq v5 v6 v7 w'=>∃ (x5_1:List (S39)) (x6_1:Bool) (x7_1:Int),v6 = .bool x6_1∧v7 = .int .i64 x7_1∧Aside0 (spec_l21Put.l0 kq l0 x5_1 x6_1 x7_1 a1_0 a1_1 a1_2=some r)∧Aside0 (kq ≤ k)∧Aside0 (Kd.R k39 39 w' w.heap.size (fun k_=>k_ ≠ gb492) v5 x5_1)∧Aside0 (w'.heap[gb492]? = some (.cells #[.int .i64 a1_0,.int .i64 a1_1,.int .i64 a1_2] 39 (0,0)))∧Aside0 (Below w.heap.size w w'))
 case atStart=>exact ⟨(y493),(false),(0),(by first|rfl|(simp;done)|(simp [*];done)),(by first|rfl|(simp;done)|(simp [*];done)),H',⟨Nat.le_refl _⟩,⟨by (with_reducible repeat (first|apply Kd.R_alloc|apply Kd.R_drewN|apply Kd.R_drew));exact Kd.R_mono HO495.out (fun _ hk=>hk.2)⟩,⟨by (with_reducible repeat (first|refine blk_drewN ?_ _|refine blk_drew ?_|refine blk_alloc ?_ _));exact BK492.out⟩,⟨by repeat (first|(with_reducible first|exact HB.out|apply below_alloc|apply pw_below_drewN|apply below_drew1|refine below_set ?_ GE492.out)|exact HB.out)⟩⟩
 case round=>
  clear H'
  try clear p2
  obtain ⟨x5_1,x6_1,x7_1,rfl,rfl,HA,HK1,HO_5,BK492,HB⟩:=hrel
  cases gk with
  | zero=>exact absurd HA.out (by simp [spec_l21Put.l0])
  | succ k1=>
   have H:=HA.out
   clear HA
   simp only [spec_l21Put.l0] at H
   by_cases c6:x7_1 < (l0.length:Int)
   ·rw [if_pos c6] at H
    have c6b0:decide (x7_1 < (l0.length:Int))=true:=decide_eq_true c6
    clear c6
    have HC7:=Aside0.mk H
    clear H
    go_upto_region 6 with (fail)
    repeat (go_quiet (fail);go_upto_region 6 with (fail))
    go_cut [26] (fun v26 wc=>∃ (kq:Nat) (x26_6:Bool),v26 = .bool x26_6∧Aside0 (spec_l21Put.j1 kq l0 x5_1 x6_1 x7_1 x26_6 a1_0 a1_1 a1_2=some r)∧Aside0 (kq ≤ k1)∧Aside0 (Kd.R k39 39 wc w.heap.size (fun k_=>k_ ≠ gb492) u5 x5_1)∧Aside0 (wc.heap[gb492]? = some (.cells #[.int .i64 a1_0,.int .i64 a1_1,.int .i64 a1_2] 39 (0,0)))∧Aside0 (Below w.heap.size w wc))
    case first=>
     have H:=HC7.out
     clear HC7
     by_cases c8:x6_1=true
     ·subst c8
      have H1:(spec_l21Put.j1 k1 l0 x5_1 true x7_1 false a1_0 a1_1 a1_2)=some r:=by rw [if_pos rfl] at H;exact H
      clear H
      have H:=H1
      clear H1
      have H':=Aside0.mk H
      clear H
      go_wp2
      repeat (go_quiet (fail);try go_wp2)
      go_meet
      case rel=>exact ⟨_,(false),(by first|rfl|(simp;done)|(simp [*];done)),H',⟨by have:=HK1.out;first|omega|exact Nat.le_refl _⟩,⟨by (with_reducible repeat (first|apply Kd.R_alloc|apply Kd.R_drewN|apply Kd.R_drew));exact HO_5.out⟩,⟨by (with_reducible repeat (first|refine blk_drewN ?_ _|refine blk_drew ?_|refine blk_alloc ?_ _));exact BK492.out⟩,⟨by repeat (first|(with_reducible first|exact HB.out|apply below_alloc|apply pw_below_drewN|apply below_drew1|refine below_set ?_ GE492.out)|exact HB.out)⟩⟩
     ·replace c8:=Bool.eq_false_iff.mpr c8
      subst c8
      have H1:(if 0 ≤ x7_1 then (spec_l21Put.j1 k1 l0 x5_1 false x7_1 (decide (((rd_T39 l0 x7_1).f0) ≥ a1_0)) a1_0 a1_1 a1_2) else (none))=some r:=by rw [if_neg (show ¬ (false=true) by decide)] at H;exact H
      clear H
      have H:=H1
      clear H1
      by_cases c9 : 0 ≤ x7_1
      ·rw [if_pos c9] at H
       have c9b0:decide (0 ≤ x7_1)=true:=decide_eq_true c9
       clear c9
       (first|rw [c9b0]|(simp only [i64_w,i32_w];rw [c9b0])|skip)
       have H':=Aside0.mk H
       clear H
       have p499 : 0 ≤ (x7_1:Int):=of_decide_eq_true (by first|(with_reducible assumption)|assumption)
       have q499:x7_1 < (l0.length:Int):=of_decide_eq_true (by first|(with_reducible assumption)|assumption)
       obtain ⟨ad499,e499,hx499_0,hx499_1,hx499_2⟩:=at_T39 HR0.out x7_1 p499 q499
       cases e499
       replace hx499_0:=(HB.out.cell (World.block_lt_of_cell? w _ hx499_0)).trans hx499_0
       replace hx499_1:=(HB.out.cell (World.block_lt_of_cell? w _ hx499_1)).trans hx499_1
       replace hx499_2:=(HB.out.cell (World.block_lt_of_cell? w _ hx499_2)).trans hx499_2
       replace p499:=eq_true p499
       replace q499:=eq_true q499
       have hcz10_0:wr.cell? ⟨gb492,0,none⟩=some (.int .i64 a1_0):=(blk_cell BK492.out 0).trans rfl
       have hcz10_1:wr.cell? ⟨gb492,1,none⟩=some (.int .i64 a1_1):=(blk_cell BK492.out 1).trans rfl
       have hcz10_2:wr.cell? ⟨gb492,2,none⟩=some (.int .i64 a1_2):=(blk_cell BK492.out 2).trans rfl
       have hfz10_0:=blk_frozen BK492.out 0
       have hfz10_1:=blk_frozen BK492.out 1
       have hfz10_2:=blk_frozen BK492.out 2
       go_wp2
       repeat (go_quiet (fail);try go_wp2)
       go_meet
       case rel=>exact ⟨_,(decide (((rd_T39 l0 x7_1).f0) ≥ a1_0)),(by first|rfl|(simp;done)|(simp [*];done)),H',⟨by have:=HK1.out;first|omega|exact Nat.le_refl _⟩,⟨by (with_reducible repeat (first|apply Kd.R_alloc|apply Kd.R_drewN|apply Kd.R_drew));exact HO_5.out⟩,⟨by (with_reducible repeat (first|refine blk_drewN ?_ _|refine blk_drew ?_|refine blk_alloc ?_ _));exact BK492.out⟩,⟨by repeat (first|(with_reducible first|exact HB.out|apply below_alloc|apply pw_below_drewN|apply below_drew1|refine below_set ?_ GE492.out)|exact HB.out)⟩⟩
      ·rw [if_neg c9] at H
       exact absurd H (by simp)
    case rest=>
     clear HC7
     try clear p2
     try clear p4
     try clear q4
     try clear hx4
     try clear c6
     try clear c6b0
     try clear c8
     try clear c9
     try clear c9b0
     try clear hcz10_0
     try clear hcz10_1
     try clear hcz10_2
     try clear hfz10_0
     try clear hfz10_1
     try clear hfz10_2
     try clear hx499_0
     try clear hx499_1
     try clear hx499_2
     try clear p2
     try clear p499
     try clear q499
     obtain ⟨kq,x26_6,rfl,HA,HJ6,HO_5,BK492,HB⟩:=hcut
     cases kq with
     | zero=>exact absurd HA.out (by simp [spec_l21Put.j1])
     | succ kj6=>
      have H:=HA.out
      clear HA
      simp only [spec_l21Put.j1] at H
      by_cases c11:x26_6=true
      ·subst c11
       have H1:(if x5_1.length < 5864062014805 then ((some (x5_1 ++ [(⟨a1_0,a1_1,a1_2⟩:S39)]:List (S39))).bind fun y500=>(if 0 ≤ x7_1 then (if x7_1 < (l0.length:Int) then (if ((rd_T39 l0 x7_1).f0)=a1_0 then (spec_l21Put.l0 kj6 l0 y500 true (wrap64 (x7_1+1)) a1_0 a1_1 a1_2) else (if y500.length < 5864062014805 then (spec_l21Put.l0 kj6 l0 (y500 ++ [(⟨(rd_T39 l0 x7_1).f0,(rd_T39 l0 x7_1).f1,(rd_T39 l0 x7_1).f2⟩:S39)]) true (wrap64 (x7_1+1)) a1_0 a1_1 a1_2) else (none))) else (none)) else (none))) else (none))=some r:=by rw [if_pos rfl] at H;exact H
       clear H
       have H:=H1
       clear H1
       by_cases c12:x5_1.length < 5864062014805
       ·rw [if_pos c12] at H
        have LMc12:=Aside0.mk c12
        clear c12
        obtain ⟨y500,hy500⟩:∃ y_:List (S39),y_=(x5_1 ++ [(⟨a1_0,a1_1,a1_2⟩:S39)]):=⟨_,rfl⟩
        replace H:(if 0 ≤ x7_1 then (if x7_1 < (l0.length:Int) then (if ((rd_T39 l0 x7_1).f0)=a1_0 then (spec_l21Put.l0 kj6 l0 y500 true (wrap64 (x7_1+1)) a1_0 a1_1 a1_2) else (if y500.length < 5864062014805 then (spec_l21Put.l0 kj6 l0 (y500 ++ [(⟨(rd_T39 l0 x7_1).f0,(rd_T39 l0 x7_1).f1,(rd_T39 l0 x7_1).f2⟩:S39)]) true (wrap64 (x7_1+1)) a1_0 a1_1 a1_2) else (none))) else (none)) else (none))=some r:=by first|(rw [hy500];with_reducible exact H)|(have H2_:=(Option.bind_some _ _).symm.trans H;rw [hy500];with_reducible exact H2_)|(have H2_:=(Option.bind_some _ _).symm.trans H;with_reducible exact H2_)|with_reducible exact H|(rw [hy500];exact H)|exact H
        have Ny500:=Aside0.mk hy500
        clear hy500
        by_cases c13 : 0 ≤ x7_1
        ·rw [if_pos c13] at H
         have c13b0:decide (0 ≤ x7_1)=true:=decide_eq_true c13
         clear c13
         by_cases c14:x7_1 < (l0.length:Int)
         ·rw [if_pos c14] at H
          have c14b0:decide (x7_1 < (l0.length:Int))=true:=decide_eq_true c14
          clear c14
          by_cases c15:((rd_T39 l0 x7_1).f0)=a1_0
          ·rw [if_pos c15] at H
           have c15b0:(((rd_T39 l0 x7_1).f0) == a1_0)=true:=beq_iff_eq.mpr c15
           have c15b1:(((rd_T39 l0 x7_1).f0) != a1_0)=false:=bne_eq_false_iff_eq.mpr c15
           clear c15
           have H':=Aside0.mk H
           clear H
           have hcz16_0:wc.cell? ⟨gb492,0,none⟩=some (.int .i64 a1_0):=(blk_cell BK492.out 0).trans rfl
           have hcz16_1:wc.cell? ⟨gb492,1,none⟩=some (.int .i64 a1_1):=(blk_cell BK492.out 1).trans rfl
           have hcz16_2:wc.cell? ⟨gb492,2,none⟩=some (.int .i64 a1_2):=(blk_cell BK492.out 2).trans rfl
           have hfz16_0:=blk_frozen BK492.out 0
           have hfz16_1:=blk_frozen BK492.out 1
           have hfz16_2:=blk_frozen BK492.out 2
           go_wp2_with (first|((with_reducible refine gate_builtin (b:=.append) (xs:=#[.tmp 27,.tmp 29]) rfl ?_);at_builtin;refine Kd.R_append k39 (w0:=w) w.heap.size rfl (.tmp 27) (.tmp 29) 23 39 (.agg #[(.int .i64 0),(.int .i64 0),(.int .i64 0)]) 24 rfl Try.underlying23 info39 rfl (by decide) (by omega) u5 x5_1 (⟨a1_0,a1_1,a1_2⟩:S39) [.int .i64 a1_0,.int .i64 a1_1,.int .i64 a1_2] (fun k_=>k_ ≠ gb492) (fun _=>False) rfl rfl ?aP (fun _ hk=>hk.elim) ?aF ?aO ?aB ?aS ?aL ?_;(case aP=>exact k39_mkM _ _ _ (⟨a1_0,a1_1,a1_2⟩:S39));(case aB=>exact (by repeat (first|(with_reducible first|exact HB.out|apply below_alloc|apply pw_below_drewN|apply below_drew1|refine below_set ?_ GE492.out)|exact HB.out)));(case aF=>exact (fun k_ hk=>Kd.freshB (g:=gb492) (o:=.cells #[.int .i64 a1_0,.int .i64 a1_1,.int .i64 a1_2] 39 (0,0)) (by (with_reducible repeat (first|refine blk_drewN ?_ _|refine blk_drew ?_|refine blk_alloc ?_ _));exact BK492.out) k_ hk));(case aO=>exact (by (with_reducible repeat (first|apply Kd.R_alloc|apply Kd.R_drewN|apply Kd.R_drew));exact HO_5.out));(case aS=>exact (below_size (by repeat (first|(with_reducible first|exact HB.out|apply below_alloc|apply pw_below_drewN|apply below_drew1|refine below_set ?_ GE492.out)|exact HB.out))));(case aL=>have:=LMc12.out;omega);intro v501 w17 ho hb hg hat;rw [← Ny500.out] at ho;have n0_:=Aside0.mk (blk_grown (g:=gb492) (o:=.cells #[.int .i64 a1_0,.int .i64 a1_1,.int .i64 a1_2] 39 (0,0)) (by (with_reducible repeat (first|refine blk_drewN ?_ _|refine blk_drew ?_|refine blk_alloc ?_ _));exact BK492.out) hg (Kd.R_away HO_5.out (fun _ hk=>hk)));have n1_:=Aside0.mk (hb);have n2_:=Aside0.mk (ho);clear BK492 HB HO_5;have BK492:=n0_;have HB:=n1_;have HO502:=n2_;clear n0_ n1_ n2_;clear ho hb hg hat;have p503 : 0 ≤ (x7_1:Int):=of_decide_eq_true (by first|(with_reducible assumption)|assumption);have q503:x7_1 < (l0.length:Int):=of_decide_eq_true (by first|(with_reducible assumption)|assumption);obtain ⟨ad503,e503,hx503_0,hx503_1,hx503_2⟩:=at_T39 HR0.out x7_1 p503 q503;cases e503;replace hx503_0:=(HB.out.cell (World.block_lt_of_cell? w _ hx503_0)).trans hx503_0;replace hx503_1:=(HB.out.cell (World.block_lt_of_cell? w _ hx503_1)).trans hx503_1;replace hx503_2:=(HB.out.cell (World.block_lt_of_cell? w _ hx503_2)).trans hx503_2;replace p503:=eq_true p503;replace q503:=eq_true q503;have hcz18_0:w17.cell? ⟨gb492,0,none⟩=some (.int .i64 a1_0):=(blk_cell BK492.out 0).trans rfl;have hcz18_1:w17.cell? ⟨gb492,1,none⟩=some (.int .i64 a1_1):=(blk_cell BK492.out 1).trans rfl;have hcz18_2:w17.cell? ⟨gb492,2,none⟩=some (.int .i64 a1_2):=(blk_cell BK492.out 2).trans rfl;have hfz18_0:=blk_frozen BK492.out 0;have hfz18_1:=blk_frozen BK492.out 1;have hfz18_2:=blk_frozen BK492.out 2))
           repeat (go_quiet (first|((with_reducible refine gate_builtin (b:=.append) (xs:=#[.tmp 27,.tmp 29]) rfl ?_);at_builtin;refine Kd.R_append k39 (w0:=w) w.heap.size rfl (.tmp 27) (.tmp 29) 23 39 (.agg #[(.int .i64 0),(.int .i64 0),(.int .i64 0)]) 24 rfl Try.underlying23 info39 rfl (by decide) (by omega) u5 x5_1 (⟨a1_0,a1_1,a1_2⟩:S39) [.int .i64 a1_0,.int .i64 a1_1,.int .i64 a1_2] (fun k_=>k_ ≠ gb492) (fun _=>False) rfl rfl ?aP (fun _ hk=>hk.elim) ?aF ?aO ?aB ?aS ?aL ?_;(case aP=>exact k39_mkM _ _ _ (⟨a1_0,a1_1,a1_2⟩:S39));(case aB=>exact (by repeat (first|(with_reducible first|exact HB.out|apply below_alloc|apply pw_below_drewN|apply below_drew1|refine below_set ?_ GE492.out)|exact HB.out)));(case aF=>exact (fun k_ hk=>Kd.freshB (g:=gb492) (o:=.cells #[.int .i64 a1_0,.int .i64 a1_1,.int .i64 a1_2] 39 (0,0)) (by (with_reducible repeat (first|refine blk_drewN ?_ _|refine blk_drew ?_|refine blk_alloc ?_ _));exact BK492.out) k_ hk));(case aO=>exact (by (with_reducible repeat (first|apply Kd.R_alloc|apply Kd.R_drewN|apply Kd.R_drew));exact HO_5.out));(case aS=>exact (below_size (by repeat (first|(with_reducible first|exact HB.out|apply below_alloc|apply pw_below_drewN|apply below_drew1|refine below_set ?_ GE492.out)|exact HB.out))));(case aL=>have:=LMc12.out;omega);intro v501 w17 ho hb hg hat;rw [← Ny500.out] at ho;have n0_:=Aside0.mk (blk_grown (g:=gb492) (o:=.cells #[.int .i64 a1_0,.int .i64 a1_1,.int .i64 a1_2] 39 (0,0)) (by (with_reducible repeat (first|refine blk_drewN ?_ _|refine blk_drew ?_|refine blk_alloc ?_ _));exact BK492.out) hg (Kd.R_away HO_5.out (fun _ hk=>hk)));have n1_:=Aside0.mk (hb);have n2_:=Aside0.mk (ho);clear BK492 HB HO_5;have BK492:=n0_;have HB:=n1_;have HO502:=n2_;clear n0_ n1_ n2_;clear ho hb hg hat;have p503 : 0 ≤ (x7_1:Int):=of_decide_eq_true (by first|(with_reducible assumption)|assumption);have q503:x7_1 < (l0.length:Int):=of_decide_eq_true (by first|(with_reducible assumption)|assumption);obtain ⟨ad503,e503,hx503_0,hx503_1,hx503_2⟩:=at_T39 HR0.out x7_1 p503 q503;cases e503;replace hx503_0:=(HB.out.cell (World.block_lt_of_cell? w _ hx503_0)).trans hx503_0;replace hx503_1:=(HB.out.cell (World.block_lt_of_cell? w _ hx503_1)).trans hx503_1;replace hx503_2:=(HB.out.cell (World.block_lt_of_cell? w _ hx503_2)).trans hx503_2;replace p503:=eq_true p503;replace q503:=eq_true q503;have hcz18_0:w17.cell? ⟨gb492,0,none⟩=some (.int .i64 a1_0):=(blk_cell BK492.out 0).trans rfl;have hcz18_1:w17.cell? ⟨gb492,1,none⟩=some (.int .i64 a1_1):=(blk_cell BK492.out 1).trans rfl;have hcz18_2:w17.cell? ⟨gb492,2,none⟩=some (.int .i64 a1_2):=(blk_cell BK492.out 2).trans rfl;have hfz18_0:=blk_frozen BK492.out 0;have hfz18_1:=blk_frozen BK492.out 1;have hfz18_2:=blk_frozen BK492.out 2));try go_wp2_with (first|((with_reducible refine gate_builtin (b:=.append) (xs:=#[.tmp 27,.tmp 29]) rfl ?_);at_builtin;refine Kd.R_append k39 (w0:=w) w.heap.size rfl (.tmp 27) (.tmp 29) 23 39 (.agg #[(.int .i64 0),(.int .i64 0),(.int .i64 0)]) 24 rfl Try.underlying23 info39 rfl (by decide) (by omega) u5 x5_1 (⟨a1_0,a1_1,a1_2⟩:S39) [.int .i64 a1_0,.int .i64 a1_1,.int .i64 a1_2] (fun k_=>k_ ≠ gb492) (fun _=>False) rfl rfl ?aP (fun _ hk=>hk.elim) ?aF ?aO ?aB ?aS ?aL ?_;(case aP=>exact k39_mkM _ _ _ (⟨a1_0,a1_1,a1_2⟩:S39));(case aB=>exact (by repeat (first|(with_reducible first|exact HB.out|apply below_alloc|apply pw_below_drewN|apply below_drew1|refine below_set ?_ GE492.out)|exact HB.out)));(case aF=>exact (fun k_ hk=>Kd.freshB (g:=gb492) (o:=.cells #[.int .i64 a1_0,.int .i64 a1_1,.int .i64 a1_2] 39 (0,0)) (by (with_reducible repeat (first|refine blk_drewN ?_ _|refine blk_drew ?_|refine blk_alloc ?_ _));exact BK492.out) k_ hk));(case aO=>exact (by (with_reducible repeat (first|apply Kd.R_alloc|apply Kd.R_drewN|apply Kd.R_drew));exact HO_5.out));(case aS=>exact (below_size (by repeat (first|(with_reducible first|exact HB.out|apply below_alloc|apply pw_below_drewN|apply below_drew1|refine below_set ?_ GE492.out)|exact HB.out))));(case aL=>have:=LMc12.out;omega);intro v501 w17 ho hb hg hat;rw [← Ny500.out] at ho;have n0_:=Aside0.mk (blk_grown (g:=gb492) (o:=.cells #[.int .i64 a1_0,.int .i64 a1_1,.int .i64 a1_2] 39 (0,0)) (by (with_reducible repeat (first|refine blk_drewN ?_ _|refine blk_drew ?_|refine blk_alloc ?_ _));exact BK492.out) hg (Kd.R_away HO_5.out (fun _ hk=>hk)));have n1_:=Aside0.mk (hb);have n2_:=Aside0.mk (ho);clear BK492 HB HO_5;have BK492:=n0_;have HB:=n1_;have HO502:=n2_;clear n0_ n1_ n2_;clear ho hb hg hat;have p503 : 0 ≤ (x7_1:Int):=of_decide_eq_true (by first|(with_reducible assumption)|assumption);have q503:x7_1 < (l0.length:Int):=of_decide_eq_true (by first|(with_reducible assumption)|assumption);obtain ⟨ad503,e503,hx503_0,hx503_1,hx503_2⟩:=at_T39 HR0.out x7_1 p503 q503;cases e503;replace hx503_0:=(HB.out.cell (World.block_lt_of_cell? w _ hx503_0)).trans hx503_0;replace hx503_1:=(HB.out.cell (World.block_lt_of_cell? w _ hx503_1)).trans hx503_1;replace hx503_2:=(HB.out.cell (World.block_lt_of_cell? w _ hx503_2)).trans hx503_2;replace p503:=eq_true p503;replace q503:=eq_true q503;have hcz18_0:w17.cell? ⟨gb492,0,none⟩=some (.int .i64 a1_0):=(blk_cell BK492.out 0).trans rfl;have hcz18_1:w17.cell? ⟨gb492,1,none⟩=some (.int .i64 a1_1):=(blk_cell BK492.out 1).trans rfl;have hcz18_2:w17.cell? ⟨gb492,2,none⟩=some (.int .i64 a1_2):=(blk_cell BK492.out 2).trans rfl;have hfz18_0:=blk_frozen BK492.out 0;have hfz18_1:=blk_frozen BK492.out 1;have hfz18_2:=blk_frozen BK492.out 2)))
           go_roundg kj6
           case measure=>have:=HK1.out;have:=HJ6.out;omega
           case rel=>exact ⟨(y500),(true),(wrap64 (x7_1+1)),(by first|rfl|(simp;done)|(simp [*];done)),(by first|rfl|(simp;done)|(simp [*];done)),H',⟨by have:=HK1.out;have:=HJ6.out;omega⟩,⟨by (with_reducible repeat (first|apply Kd.R_alloc|apply Kd.R_drewN|apply Kd.R_drew));exact HO502.out⟩,⟨by (with_reducible repeat (first|refine blk_drewN ?_ _|refine blk_drew ?_|refine blk_alloc ?_ _));exact BK492.out⟩,⟨by repeat (first|(with_reducible first|exact HB.out|apply below_alloc|apply pw_below_drewN|apply below_drew1|refine below_set ?_ GE492.out)|exact HB.out)⟩⟩
          ·rw [if_neg c15] at H
           have c15b0:(((rd_T39 l0 x7_1).f0) == a1_0)=false:=beq_eq_false_iff_ne.mpr c15
           have c15b1:(((rd_T39 l0 x7_1).f0) != a1_0)=true:=bne_iff_ne.mpr c15
           by_cases c19:y500.length < 5864062014805
           ·rw [if_pos c19] at H
            have LMc19:=Aside0.mk c19
            clear c19
            obtain ⟨y505,hy505⟩:∃ y_:List (S39),y_=(y500 ++ [(⟨(rd_T39 l0 x7_1).f0,(rd_T39 l0 x7_1).f1,(rd_T39 l0 x7_1).f2⟩:S39)]):=⟨_,rfl⟩
            replace H:(spec_l21Put.l0 kj6 l0 y505 true (wrap64 (x7_1+1)) a1_0 a1_1 a1_2)=some r:=by first|(rw [hy505];with_reducible exact H)|(have H2_:=(Option.bind_some _ _).symm.trans H;rw [hy505];with_reducible exact H2_)|(have H2_:=(Option.bind_some _ _).symm.trans H;with_reducible exact H2_)|with_reducible exact H|(rw [hy505];exact H)|exact H
            have Ny505:=Aside0.mk hy505
            clear hy505
            have H':=Aside0.mk H
            clear H
            have hcz20_0:wc.cell? ⟨gb492,0,none⟩=some (.int .i64 a1_0):=(blk_cell BK492.out 0).trans rfl
            have hcz20_1:wc.cell? ⟨gb492,1,none⟩=some (.int .i64 a1_1):=(blk_cell BK492.out 1).trans rfl
            have hcz20_2:wc.cell? ⟨gb492,2,none⟩=some (.int .i64 a1_2):=(blk_cell BK492.out 2).trans rfl
            have hfz20_0:=blk_frozen BK492.out 0
            have hfz20_1:=blk_frozen BK492.out 1
            have hfz20_2:=blk_frozen BK492.out 2
            go_wp2_with (first|((with_reducible refine gate_builtin (b:=.append) (xs:=#[.tmp 27,.tmp 29]) rfl ?_);at_builtin;refine Kd.R_append k39 (w0:=w) w.heap.size rfl (.tmp 27) (.tmp 29) 23 39 (.agg #[(.int .i64 0),(.int .i64 0),(.int .i64 0)]) 24 rfl Try.underlying23 info39 rfl (by decide) (by omega) u5 x5_1 (⟨a1_0,a1_1,a1_2⟩:S39) [.int .i64 a1_0,.int .i64 a1_1,.int .i64 a1_2] (fun k_=>k_ ≠ gb492) (fun _=>False) rfl rfl ?aP (fun _ hk=>hk.elim) ?aF ?aO ?aB ?aS ?aL ?_;(case aP=>exact k39_mkM _ _ _ (⟨a1_0,a1_1,a1_2⟩:S39));(case aB=>exact (by repeat (first|(with_reducible first|exact HB.out|apply below_alloc|apply pw_below_drewN|apply below_drew1|refine below_set ?_ GE492.out)|exact HB.out)));(case aF=>exact (fun k_ hk=>Kd.freshB (g:=gb492) (o:=.cells #[.int .i64 a1_0,.int .i64 a1_1,.int .i64 a1_2] 39 (0,0)) (by (with_reducible repeat (first|refine blk_drewN ?_ _|refine blk_drew ?_|refine blk_alloc ?_ _));exact BK492.out) k_ hk));(case aO=>exact (by (with_reducible repeat (first|apply Kd.R_alloc|apply Kd.R_drewN|apply Kd.R_drew));exact HO_5.out));(case aS=>exact (below_size (by repeat (first|(with_reducible first|exact HB.out|apply below_alloc|apply pw_below_drewN|apply below_drew1|refine below_set ?_ GE492.out)|exact HB.out))));(case aL=>have:=LMc12.out;omega);intro v501 w21 ho hb hg hat;rw [← Ny500.out] at ho;have n0_:=Aside0.mk (blk_grown (g:=gb492) (o:=.cells #[.int .i64 a1_0,.int .i64 a1_1,.int .i64 a1_2] 39 (0,0)) (by (with_reducible repeat (first|refine blk_drewN ?_ _|refine blk_drew ?_|refine blk_alloc ?_ _));exact BK492.out) hg (Kd.R_away HO_5.out (fun _ hk=>hk)));have n1_:=Aside0.mk (hb);have n2_:=Aside0.mk (ho);clear BK492 HB HO_5;have BK492:=n0_;have HB:=n1_;have HO502:=n2_;clear n0_ n1_ n2_;clear ho hb hg hat;have p503 : 0 ≤ (x7_1:Int):=of_decide_eq_true (by first|(with_reducible assumption)|assumption);have q503:x7_1 < (l0.length:Int):=of_decide_eq_true (by first|(with_reducible assumption)|assumption);obtain ⟨ad503,e503,hx503_0,hx503_1,hx503_2⟩:=at_T39 HR0.out x7_1 p503 q503;cases e503;replace hx503_0:=(HB.out.cell (World.block_lt_of_cell? w _ hx503_0)).trans hx503_0;replace hx503_1:=(HB.out.cell (World.block_lt_of_cell? w _ hx503_1)).trans hx503_1;replace hx503_2:=(HB.out.cell (World.block_lt_of_cell? w _ hx503_2)).trans hx503_2;replace p503:=eq_true p503;replace q503:=eq_true q503;have hcz22_0:w21.cell? ⟨gb492,0,none⟩=some (.int .i64 a1_0):=(blk_cell BK492.out 0).trans rfl;have hcz22_1:w21.cell? ⟨gb492,1,none⟩=some (.int .i64 a1_1):=(blk_cell BK492.out 1).trans rfl;have hcz22_2:w21.cell? ⟨gb492,2,none⟩=some (.int .i64 a1_2):=(blk_cell BK492.out 2).trans rfl;have hfz22_0:=blk_frozen BK492.out 0;have hfz22_1:=blk_frozen BK492.out 1;have hfz22_2:=blk_frozen BK492.out 2;have p504 : 0 ≤ (x7_1:Int):=of_decide_eq_true (by first|(with_reducible assumption)|assumption);have q504:x7_1 < (l0.length:Int):=of_decide_eq_true (by first|(with_reducible assumption)|assumption);obtain ⟨ad504,e504,hx504_0,hx504_1,hx504_2⟩:=at_T39 HR0.out x7_1 p504 q504;obtain rfl:ad503=ad504:=(by injection e504);replace hx504_0:=(HB.out.cell (World.block_lt_of_cell? w _ hx504_0)).trans hx504_0;replace hx504_1:=(HB.out.cell (World.block_lt_of_cell? w _ hx504_1)).trans hx504_1;replace hx504_2:=(HB.out.cell (World.block_lt_of_cell? w _ hx504_2)).trans hx504_2;replace p504:=eq_true p504;replace q504:=eq_true q504)|((with_reducible refine gate_builtin (b:=.append) (xs:=#[.tmp 39,.tmp 44]) rfl ?_);at_builtin;refine Kd.R_append k39 (w0:=w) w.heap.size rfl (.tmp 39) (.tmp 44) 23 39 (.agg #[(.int .i64 0),(.int .i64 0),(.int .i64 0)]) 24 rfl Try.underlying23 info39 rfl (by decide) (by omega) v501 y500 (⟨(rd_T39 l0 x7_1).f0,(rd_T39 l0 x7_1).f1,(rd_T39 l0 x7_1).f2⟩:S39) [.int .i64 ((rd_T39 l0 x7_1).f0),.int .i64 ((rd_T39 l0 x7_1).f1),.int .i64 ((rd_T39 l0 x7_1).f2)] (fun k_=>k_ ≠ gb492) (fun _=>False) rfl rfl ?aP (fun _ hk=>hk.elim) ?aF ?aO ?aB ?aS ?aL ?_;(case aP=>exact k39_mkM _ _ _ (⟨(rd_T39 l0 x7_1).f0,(rd_T39 l0 x7_1).f1,(rd_T39 l0 x7_1).f2⟩:S39));(case aB=>exact (by repeat (first|(with_reducible first|exact HB.out|apply below_alloc|apply pw_below_drewN|apply below_drew1|refine below_set ?_ GE492.out)|exact HB.out)));(case aF=>exact (fun k_ hk=>Kd.freshB (g:=gb492) (o:=.cells #[.int .i64 a1_0,.int .i64 a1_1,.int .i64 a1_2] 39 (0,0)) (by (with_reducible repeat (first|refine blk_drewN ?_ _|refine blk_drew ?_|refine blk_alloc ?_ _));exact BK492.out) k_ hk));(case aO=>exact (by (with_reducible repeat (first|apply Kd.R_alloc|apply Kd.R_drewN|apply Kd.R_drew));exact HO502.out));(case aS=>exact (below_size (by repeat (first|(with_reducible first|exact HB.out|apply below_alloc|apply pw_below_drewN|apply below_drew1|refine below_set ?_ GE492.out)|exact HB.out))));(case aL=>have:=LMc19.out;omega);intro v506 w23 ho hb hg hat;rw [← Ny505.out] at ho;have n0_:=Aside0.mk (blk_grown (g:=gb492) (o:=.cells #[.int .i64 a1_0,.int .i64 a1_1,.int .i64 a1_2] 39 (0,0)) (by (with_reducible repeat (first|refine blk_drewN ?_ _|refine blk_drew ?_|refine blk_alloc ?_ _));exact BK492.out) hg (Kd.R_away HO502.out (fun _ hk=>hk)));have n1_:=Aside0.mk (hb);have n2_:=Aside0.mk (ho);clear BK492 HB HO502;have BK492:=n0_;have HB:=n1_;have HO507:=n2_;clear n0_ n1_ n2_;clear ho hb hg hat))
            repeat (go_quiet (first|((with_reducible refine gate_builtin (b:=.append) (xs:=#[.tmp 27,.tmp 29]) rfl ?_);at_builtin;refine Kd.R_append k39 (w0:=w) w.heap.size rfl (.tmp 27) (.tmp 29) 23 39 (.agg #[(.int .i64 0),(.int .i64 0),(.int .i64 0)]) 24 rfl Try.underlying23 info39 rfl (by decide) (by omega) u5 x5_1 (⟨a1_0,a1_1,a1_2⟩:S39) [.int .i64 a1_0,.int .i64 a1_1,.int .i64 a1_2] (fun k_=>k_ ≠ gb492) (fun _=>False) rfl rfl ?aP (fun _ hk=>hk.elim) ?aF ?aO ?aB ?aS ?aL ?_;(case aP=>exact k39_mkM _ _ _ (⟨a1_0,a1_1,a1_2⟩:S39));(case aB=>exact (by repeat (first|(with_reducible first|exact HB.out|apply below_alloc|apply pw_below_drewN|apply below_drew1|refine below_set ?_ GE492.out)|exact HB.out)));(case aF=>exact (fun k_ hk=>Kd.freshB (g:=gb492) (o:=.cells #[.int .i64 a1_0,.int .i64 a1_1,.int .i64 a1_2] 39 (0,0)) (by (with_reducible repeat (first|refine blk_drewN ?_ _|refine blk_drew ?_|refine blk_alloc ?_ _));exact BK492.out) k_ hk));(case aO=>exact (by (with_reducible repeat (first|apply Kd.R_alloc|apply Kd.R_drewN|apply Kd.R_drew));exact HO_5.out));(case aS=>exact (below_size (by repeat (first|(with_reducible first|exact HB.out|apply below_alloc|apply pw_below_drewN|apply below_drew1|refine below_set ?_ GE492.out)|exact HB.out))));(case aL=>have:=LMc12.out;omega);intro v501 w21 ho hb hg hat;rw [← Ny500.out] at ho;have n0_:=Aside0.mk (blk_grown (g:=gb492) (o:=.cells #[.int .i64 a1_0,.int .i64 a1_1,.int .i64 a1_2] 39 (0,0)) (by (with_reducible repeat (first|refine blk_drewN ?_ _|refine blk_drew ?_|refine blk_alloc ?_ _));exact BK492.out) hg (Kd.R_away HO_5.out (fun _ hk=>hk)));have n1_:=Aside0.mk (hb);have n2_:=Aside0.mk (ho);clear BK492 HB HO_5;have BK492:=n0_;have HB:=n1_;have HO502:=n2_;clear n0_ n1_ n2_;clear ho hb hg hat;have p503 : 0 ≤ (x7_1:Int):=of_decide_eq_true (by first|(with_reducible assumption)|assumption);have q503:x7_1 < (l0.length:Int):=of_decide_eq_true (by first|(with_reducible assumption)|assumption);obtain ⟨ad503,e503,hx503_0,hx503_1,hx503_2⟩:=at_T39 HR0.out x7_1 p503 q503;cases e503;replace hx503_0:=(HB.out.cell (World.block_lt_of_cell? w _ hx503_0)).trans hx503_0;replace hx503_1:=(HB.out.cell (World.block_lt_of_cell? w _ hx503_1)).trans hx503_1;replace hx503_2:=(HB.out.cell (World.block_lt_of_cell? w _ hx503_2)).trans hx503_2;replace p503:=eq_true p503;replace q503:=eq_true q503;have hcz22_0:w21.cell? ⟨gb492,0,none⟩=some (.int .i64 a1_0):=(blk_cell BK492.out 0).trans rfl;have hcz22_1:w21.cell? ⟨gb492,1,none⟩=some (.int .i64 a1_1):=(blk_cell BK492.out 1).trans rfl;have hcz22_2:w21.cell? ⟨gb492,2,none⟩=some (.int .i64 a1_2):=(blk_cell BK492.out 2).trans rfl;have hfz22_0:=blk_frozen BK492.out 0;have hfz22_1:=blk_frozen BK492.out 1;have hfz22_2:=blk_frozen BK492.out 2;have p504 : 0 ≤ (x7_1:Int):=of_decide_eq_true (by first|(with_reducible assumption)|assumption);have q504:x7_1 < (l0.length:Int):=of_decide_eq_true (by first|(with_reducible assumption)|assumption);obtain ⟨ad504,e504,hx504_0,hx504_1,hx504_2⟩:=at_T39 HR0.out x7_1 p504 q504;obtain rfl:ad503=ad504:=(by injection e504);replace hx504_0:=(HB.out.cell (World.block_lt_of_cell? w _ hx504_0)).trans hx504_0;replace hx504_1:=(HB.out.cell (World.block_lt_of_cell? w _ hx504_1)).trans hx504_1;replace hx504_2:=(HB.out.cell (World.block_lt_of_cell? w _ hx504_2)).trans hx504_2;replace p504:=eq_true p504;replace q504:=eq_true q504)|((with_reducible refine gate_builtin (b:=.append) (xs:=#[.tmp 39,.tmp 44]) rfl ?_);at_builtin;refine Kd.R_append k39 (w0:=w) w.heap.size rfl (.tmp 39) (.tmp 44) 23 39 (.agg #[(.int .i64 0),(.int .i64 0),(.int .i64 0)]) 24 rfl Try.underlying23 info39 rfl (by decide) (by omega) v501 y500 (⟨(rd_T39 l0 x7_1).f0,(rd_T39 l0 x7_1).f1,(rd_T39 l0 x7_1).f2⟩:S39) [.int .i64 ((rd_T39 l0 x7_1).f0),.int .i64 ((rd_T39 l0 x7_1).f1),.int .i64 ((rd_T39 l0 x7_1).f2)] (fun k_=>k_ ≠ gb492) (fun _=>False) rfl rfl ?aP (fun _ hk=>hk.elim) ?aF ?aO ?aB ?aS ?aL ?_;(case aP=>exact k39_mkM _ _ _ (⟨(rd_T39 l0 x7_1).f0,(rd_T39 l0 x7_1).f1,(rd_T39 l0 x7_1).f2⟩:S39));(case aB=>exact (by repeat (first|(with_reducible first|exact HB.out|apply below_alloc|apply pw_below_drewN|apply below_drew1|refine below_set ?_ GE492.out)|exact HB.out)));(case aF=>exact (fun k_ hk=>Kd.freshB (g:=gb492) (o:=.cells #[.int .i64 a1_0,.int .i64 a1_1,.int .i64 a1_2] 39 (0,0)) (by (with_reducible repeat (first|refine blk_drewN ?_ _|refine blk_drew ?_|refine blk_alloc ?_ _));exact BK492.out) k_ hk));(case aO=>exact (by (with_reducible repeat (first|apply Kd.R_alloc|apply Kd.R_drewN|apply Kd.R_drew));exact HO502.out));(case aS=>exact (below_size (by repeat (first|(with_reducible first|exact HB.out|apply below_alloc|apply pw_below_drewN|apply below_drew1|refine below_set ?_ GE492.out)|exact HB.out))));(case aL=>have:=LMc19.out;omega);intro v506 w23 ho hb hg hat;rw [← Ny505.out] at ho;have n0_:=Aside0.mk (blk_grown (g:=gb492) (o:=.cells #[.int .i64 a1_0,.int .i64 a1_1,.int .i64 a1_2] 39 (0,0)) (by (with_reducible repeat (first|refine blk_drewN ?_ _|refine blk_drew ?_|refine blk_alloc ?_ _));exact BK492.out) hg (Kd.R_away HO502.out (fun _ hk=>hk)));have n1_:=Aside0.mk (hb);have n2_:=Aside0.mk (ho);clear BK492 HB HO502;have BK492:=n0_;have HB:=n1_;have HO507:=n2_;clear n0_ n1_ n2_;clear ho hb hg hat));try go_wp2_with (first|((with_reducible refine gate_builtin (b:=.append) (xs:=#[.tmp 27,.tmp 29]) rfl ?_);at_builtin;refine Kd.R_append k39 (w0:=w) w.heap.size rfl (.tmp 27) (.tmp 29) 23 39 (.agg #[(.int .i64 0),(.int .i64 0),(.int .i64 0)]) 24 rfl Try.underlying23 info39 rfl (by decide) (by omega) u5 x5_1 (⟨a1_0,a1_1,a1_2⟩:S39) [.int .i64 a1_0,.int .i64 a1_1,.int .i64 a1_2] (fun k_=>k_ ≠ gb492) (fun _=>False) rfl rfl ?aP (fun _ hk=>hk.elim) ?aF ?aO ?aB ?aS ?aL ?_;(case aP=>exact k39_mkM _ _ _ (⟨a1_0,a1_1,a1_2⟩:S39));(case aB=>exact (by repeat (first|(with_reducible first|exact HB.out|apply below_alloc|apply pw_below_drewN|apply below_drew1|refine below_set ?_ GE492.out)|exact HB.out)));(case aF=>exact (fun k_ hk=>Kd.freshB (g:=gb492) (o:=.cells #[.int .i64 a1_0,.int .i64 a1_1,.int .i64 a1_2] 39 (0,0)) (by (with_reducible repeat (first|refine blk_drewN ?_ _|refine blk_drew ?_|refine blk_alloc ?_ _));exact BK492.out) k_ hk));(case aO=>exact (by (with_reducible repeat (first|apply Kd.R_alloc|apply Kd.R_drewN|apply Kd.R_drew));exact HO_5.out));(case aS=>exact (below_size (by repeat (first|(with_reducible first|exact HB.out|apply below_alloc|apply pw_below_drewN|apply below_drew1|refine below_set ?_ GE492.out)|exact HB.out))));(case aL=>have:=LMc12.out;omega);intro v501 w21 ho hb hg hat;rw [← Ny500.out] at ho;have n0_:=Aside0.mk (blk_grown (g:=gb492) (o:=.cells #[.int .i64 a1_0,.int .i64 a1_1,.int .i64 a1_2] 39 (0,0)) (by (with_reducible repeat (first|refine blk_drewN ?_ _|refine blk_drew ?_|refine blk_alloc ?_ _));exact BK492.out) hg (Kd.R_away HO_5.out (fun _ hk=>hk)));have n1_:=Aside0.mk (hb);have n2_:=Aside0.mk (ho);clear BK492 HB HO_5;have BK492:=n0_;have HB:=n1_;have HO502:=n2_;clear n0_ n1_ n2_;clear ho hb hg hat;have p503 : 0 ≤ (x7_1:Int):=of_decide_eq_true (by first|(with_reducible assumption)|assumption);have q503:x7_1 < (l0.length:Int):=of_decide_eq_true (by first|(with_reducible assumption)|assumption);obtain ⟨ad503,e503,hx503_0,hx503_1,hx503_2⟩:=at_T39 HR0.out x7_1 p503 q503;cases e503;replace hx503_0:=(HB.out.cell (World.block_lt_of_cell? w _ hx503_0)).trans hx503_0;replace hx503_1:=(HB.out.cell (World.block_lt_of_cell? w _ hx503_1)).trans hx503_1;replace hx503_2:=(HB.out.cell (World.block_lt_of_cell? w _ hx503_2)).trans hx503_2;replace p503:=eq_true p503;replace q503:=eq_true q503;have hcz22_0:w21.cell? ⟨gb492,0,none⟩=some (.int .i64 a1_0):=(blk_cell BK492.out 0).trans rfl;have hcz22_1:w21.cell? ⟨gb492,1,none⟩=some (.int .i64 a1_1):=(blk_cell BK492.out 1).trans rfl;have hcz22_2:w21.cell? ⟨gb492,2,none⟩=some (.int .i64 a1_2):=(blk_cell BK492.out 2).trans rfl;have hfz22_0:=blk_frozen BK492.out 0;have hfz22_1:=blk_frozen BK492.out 1;have hfz22_2:=blk_frozen BK492.out 2;have p504 : 0 ≤ (x7_1:Int):=of_decide_eq_true (by first|(with_reducible assumption)|assumption);have q504:x7_1 < (l0.length:Int):=of_decide_eq_true (by first|(with_reducible assumption)|assumption);obtain ⟨ad504,e504,hx504_0,hx504_1,hx504_2⟩:=at_T39 HR0.out x7_1 p504 q504;obtain rfl:ad503=ad504:=(by injection e504);replace hx504_0:=(HB.out.cell (World.block_lt_of_cell? w _ hx504_0)).trans hx504_0;replace hx504_1:=(HB.out.cell (World.block_lt_of_cell? w _ hx504_1)).trans hx504_1;replace hx504_2:=(HB.out.cell (World.block_lt_of_cell? w _ hx504_2)).trans hx504_2;replace p504:=eq_true p504;replace q504:=eq_true q504)|((with_reducible refine gate_builtin (b:=.append) (xs:=#[.tmp 39,.tmp 44]) rfl ?_);at_builtin;refine Kd.R_append k39 (w0:=w) w.heap.size rfl (.tmp 39) (.tmp 44) 23 39 (.agg #[(.int .i64 0),(.int .i64 0),(.int .i64 0)]) 24 rfl Try.underlying23 info39 rfl (by decide) (by omega) v501 y500 (⟨(rd_T39 l0 x7_1).f0,(rd_T39 l0 x7_1).f1,(rd_T39 l0 x7_1).f2⟩:S39) [.int .i64 ((rd_T39 l0 x7_1).f0),.int .i64 ((rd_T39 l0 x7_1).f1),.int .i64 ((rd_T39 l0 x7_1).f2)] (fun k_=>k_ ≠ gb492) (fun _=>False) rfl rfl ?aP (fun _ hk=>hk.elim) ?aF ?aO ?aB ?aS ?aL ?_;(case aP=>exact k39_mkM _ _ _ (⟨(rd_T39 l0 x7_1).f0,(rd_T39 l0 x7_1).f1,(rd_T39 l0 x7_1).f2⟩:S39));(case aB=>exact (by repeat (first|(with_reducible first|exact HB.out|apply below_alloc|apply pw_below_drewN|apply below_drew1|refine below_set ?_ GE492.out)|exact HB.out)));(case aF=>exact (fun k_ hk=>Kd.freshB (g:=gb492) (o:=.cells #[.int .i64 a1_0,.int .i64 a1_1,.int .i64 a1_2] 39 (0,0)) (by (with_reducible repeat (first|refine blk_drewN ?_ _|refine blk_drew ?_|refine blk_alloc ?_ _));exact BK492.out) k_ hk));(case aO=>exact (by (with_reducible repeat (first|apply Kd.R_alloc|apply Kd.R_drewN|apply Kd.R_drew));exact HO502.out));(case aS=>exact (below_size (by repeat (first|(with_reducible first|exact HB.out|apply below_alloc|apply pw_below_drewN|apply below_drew1|refine below_set ?_ GE492.out)|exact HB.out))));(case aL=>have:=LMc19.out;omega);intro v506 w23 ho hb hg hat;rw [← Ny505.out] at ho;have n0_:=Aside0.mk (blk_grown (g:=gb492) (o:=.cells #[.int .i64 a1_0,.int .i64 a1_1,.int .i64 a1_2] 39 (0,0)) (by (with_reducible repeat (first|refine blk_drewN ?_ _|refine blk_drew ?_|refine blk_alloc ?_ _));exact BK492.out) hg (Kd.R_away HO502.out (fun _ hk=>hk)));have n1_:=Aside0.mk (hb);have n2_:=Aside0.mk (ho);clear BK492 HB HO502;have BK492:=n0_;have HB:=n1_;have HO507:=n2_;clear n0_ n1_ n2_;clear ho hb hg hat)))
            go_roundg kj6
            case measure=>have:=HK1.out;have:=HJ6.out;omega
            case rel=>exact ⟨(y505),(true),(wrap64 (x7_1+1)),(by first|rfl|(simp;done)|(simp [*];done)),(by first|rfl|(simp;done)|(simp [*];done)),H',⟨by have:=HK1.out;have:=HJ6.out;omega⟩,⟨by (with_reducible repeat (first|apply Kd.R_alloc|apply Kd.R_drewN|apply Kd.R_drew));exact HO507.out⟩,⟨by (with_reducible repeat (first|refine blk_drewN ?_ _|refine blk_drew ?_|refine blk_alloc ?_ _));exact BK492.out⟩,⟨by repeat (first|(with_reducible first|exact HB.out|apply below_alloc|apply pw_below_drewN|apply below_drew1|refine below_set ?_ GE492.out)|exact HB.out)⟩⟩
           ·rw [if_neg c19] at H
            exact absurd H (by simp)
         ·rw [if_neg c14] at H
          exact absurd H (by simp)
        ·rw [if_neg c13] at H
         exact absurd H (by simp)
       ·rw [if_neg c12] at H
        exact absurd H (by simp)
      ·replace c11:=Bool.eq_false_iff.mpr c11
       subst c11
       have H1:(if 0 ≤ x7_1 then (if x7_1 < (l0.length:Int) then (if ((rd_T39 l0 x7_1).f0)=a1_0 then (spec_l21Put.l0 kj6 l0 x5_1 x6_1 (wrap64 (x7_1+1)) a1_0 a1_1 a1_2) else (if x5_1.length < 5864062014805 then (spec_l21Put.l0 kj6 l0 (x5_1 ++ [(⟨(rd_T39 l0 x7_1).f0,(rd_T39 l0 x7_1).f1,(rd_T39 l0 x7_1).f2⟩:S39)]) x6_1 (wrap64 (x7_1+1)) a1_0 a1_1 a1_2) else (none))) else (none)) else (none))=some r:=by rw [if_neg (show ¬ (false=true) by decide)] at H;exact H
       clear H
       have H:=H1
       clear H1
       by_cases c24 : 0 ≤ x7_1
       ·rw [if_pos c24] at H
        have c24b0:decide (0 ≤ x7_1)=true:=decide_eq_true c24
        clear c24
        by_cases c25:x7_1 < (l0.length:Int)
        ·rw [if_pos c25] at H
         have c25b0:decide (x7_1 < (l0.length:Int))=true:=decide_eq_true c25
         clear c25
         by_cases c26:((rd_T39 l0 x7_1).f0)=a1_0
         ·rw [if_pos c26] at H
          have c26b0:(((rd_T39 l0 x7_1).f0) == a1_0)=true:=beq_iff_eq.mpr c26
          have c26b1:(((rd_T39 l0 x7_1).f0) != a1_0)=false:=bne_eq_false_iff_eq.mpr c26
          clear c26
          have H':=Aside0.mk H
          clear H
          have p508 : 0 ≤ (x7_1:Int):=of_decide_eq_true (by first|(with_reducible assumption)|assumption)
          have q508:x7_1 < (l0.length:Int):=of_decide_eq_true (by first|(with_reducible assumption)|assumption)
          obtain ⟨ad508,e508,hx508_0,hx508_1,hx508_2⟩:=at_T39 HR0.out x7_1 p508 q508
          cases e508
          replace hx508_0:=(HB.out.cell (World.block_lt_of_cell? w _ hx508_0)).trans hx508_0
          replace hx508_1:=(HB.out.cell (World.block_lt_of_cell? w _ hx508_1)).trans hx508_1
          replace hx508_2:=(HB.out.cell (World.block_lt_of_cell? w _ hx508_2)).trans hx508_2
          replace p508:=eq_true p508
          replace q508:=eq_true q508
          have hcz27_0:wc.cell? ⟨gb492,0,none⟩=some (.int .i64 a1_0):=(blk_cell BK492.out 0).trans rfl
          have hcz27_1:wc.cell? ⟨gb492,1,none⟩=some (.int .i64 a1_1):=(blk_cell BK492.out 1).trans rfl
          have hcz27_2:wc.cell? ⟨gb492,2,none⟩=some (.int .i64 a1_2):=(blk_cell BK492.out 2).trans rfl
          have hfz27_0:=blk_frozen BK492.out 0
          have hfz27_1:=blk_frozen BK492.out 1
          have hfz27_2:=blk_frozen BK492.out 2
          go_wp2
          repeat (go_quiet (fail);try go_wp2)
          go_roundg kj6
          case measure=>have:=HK1.out;have:=HJ6.out;omega
          case rel=>exact ⟨(x5_1),(x6_1),(wrap64 (x7_1+1)),(by first|rfl|(simp;done)|(simp [*];done)),(by first|rfl|(simp;done)|(simp [*];done)),H',⟨by have:=HK1.out;have:=HJ6.out;omega⟩,⟨by (with_reducible repeat (first|apply Kd.R_alloc|apply Kd.R_drewN|apply Kd.R_drew));exact HO_5.out⟩,⟨by (with_reducible repeat (first|refine blk_drewN ?_ _|refine blk_drew ?_|refine blk_alloc ?_ _));exact BK492.out⟩,⟨by repeat (first|(with_reducible first|exact HB.out|apply below_alloc|apply pw_below_drewN|apply below_drew1|refine below_set ?_ GE492.out)|exact HB.out)⟩⟩
         ·rw [if_neg c26] at H
          have c26b0:(((rd_T39 l0 x7_1).f0) == a1_0)=false:=beq_eq_false_iff_ne.mpr c26
          have c26b1:(((rd_T39 l0 x7_1).f0) != a1_0)=true:=bne_iff_ne.mpr c26
          by_cases c28:x5_1.length < 5864062014805
          ·rw [if_pos c28] at H
           have LMc28:=Aside0.mk c28
           clear c28
           obtain ⟨y510,hy510⟩:∃ y_:List (S39),y_=(x5_1 ++ [(⟨(rd_T39 l0 x7_1).f0,(rd_T39 l0 x7_1).f1,(rd_T39 l0 x7_1).f2⟩:S39)]):=⟨_,rfl⟩
           replace H:(spec_l21Put.l0 kj6 l0 y510 x6_1 (wrap64 (x7_1+1)) a1_0 a1_1 a1_2)=some r:=by first|(rw [hy510];with_reducible exact H)|(have H2_:=(Option.bind_some _ _).symm.trans H;rw [hy510];with_reducible exact H2_)|(have H2_:=(Option.bind_some _ _).symm.trans H;with_reducible exact H2_)|with_reducible exact H|(rw [hy510];exact H)|exact H
           have Ny510:=Aside0.mk hy510
           clear hy510
           have H':=Aside0.mk H
           clear H
           have p508 : 0 ≤ (x7_1:Int):=of_decide_eq_true (by first|(with_reducible assumption)|assumption)
           have q508:x7_1 < (l0.length:Int):=of_decide_eq_true (by first|(with_reducible assumption)|assumption)
           obtain ⟨ad508,e508,hx508_0,hx508_1,hx508_2⟩:=at_T39 HR0.out x7_1 p508 q508
           cases e508
           replace hx508_0:=(HB.out.cell (World.block_lt_of_cell? w _ hx508_0)).trans hx508_0
           replace hx508_1:=(HB.out.cell (World.block_lt_of_cell? w _ hx508_1)).trans hx508_1
           replace hx508_2:=(HB.out.cell (World.block_lt_of_cell? w _ hx508_2)).trans hx508_2
           replace p508:=eq_true p508
           replace q508:=eq_true q508
           have hcz29_0:wc.cell? ⟨gb492,0,none⟩=some (.int .i64 a1_0):=(blk_cell BK492.out 0).trans rfl
           have hcz29_1:wc.cell? ⟨gb492,1,none⟩=some (.int .i64 a1_1):=(blk_cell BK492.out 1).trans rfl
           have hcz29_2:wc.cell? ⟨gb492,2,none⟩=some (.int .i64 a1_2):=(blk_cell BK492.out 2).trans rfl
           have hfz29_0:=blk_frozen BK492.out 0
           have hfz29_1:=blk_frozen BK492.out 1
           have hfz29_2:=blk_frozen BK492.out 2
           have p509 : 0 ≤ (x7_1:Int):=of_decide_eq_true (by first|(with_reducible assumption)|assumption)
           have q509:x7_1 < (l0.length:Int):=of_decide_eq_true (by first|(with_reducible assumption)|assumption)
           obtain ⟨ad509,e509,hx509_0,hx509_1,hx509_2⟩:=at_T39 HR0.out x7_1 p509 q509
           obtain rfl:ad508=ad509:=(by injection e509)
           replace hx509_0:=(HB.out.cell (World.block_lt_of_cell? w _ hx509_0)).trans hx509_0
           replace hx509_1:=(HB.out.cell (World.block_lt_of_cell? w _ hx509_1)).trans hx509_1
           replace hx509_2:=(HB.out.cell (World.block_lt_of_cell? w _ hx509_2)).trans hx509_2
           replace p509:=eq_true p509
           replace q509:=eq_true q509
           go_wp2_with (first|((with_reducible refine gate_builtin (b:=.append) (xs:=#[.tmp 39,.tmp 44]) rfl ?_);at_builtin;refine Kd.R_append k39 (w0:=w) w.heap.size rfl (.tmp 39) (.tmp 44) 23 39 (.agg #[(.int .i64 0),(.int .i64 0),(.int .i64 0)]) 24 rfl Try.underlying23 info39 rfl (by decide) (by omega) u5 x5_1 (⟨(rd_T39 l0 x7_1).f0,(rd_T39 l0 x7_1).f1,(rd_T39 l0 x7_1).f2⟩:S39) [.int .i64 ((rd_T39 l0 x7_1).f0),.int .i64 ((rd_T39 l0 x7_1).f1),.int .i64 ((rd_T39 l0 x7_1).f2)] (fun k_=>k_ ≠ gb492) (fun _=>False) rfl rfl ?aP (fun _ hk=>hk.elim) ?aF ?aO ?aB ?aS ?aL ?_;(case aP=>exact k39_mkM _ _ _ (⟨(rd_T39 l0 x7_1).f0,(rd_T39 l0 x7_1).f1,(rd_T39 l0 x7_1).f2⟩:S39));(case aB=>exact (by repeat (first|(with_reducible first|exact HB.out|apply below_alloc|apply pw_below_drewN|apply below_drew1|refine below_set ?_ GE492.out)|exact HB.out)));(case aF=>exact (fun k_ hk=>Kd.freshB (g:=gb492) (o:=.cells #[.int .i64 a1_0,.int .i64 a1_1,.int .i64 a1_2] 39 (0,0)) (by (with_reducible repeat (first|refine blk_drewN ?_ _|refine blk_drew ?_|refine blk_alloc ?_ _));exact BK492.out) k_ hk));(case aO=>exact (by (with_reducible repeat (first|apply Kd.R_alloc|apply Kd.R_drewN|apply Kd.R_drew));exact HO_5.out));(case aS=>exact (below_size (by repeat (first|(with_reducible first|exact HB.out|apply below_alloc|apply pw_below_drewN|apply below_drew1|refine below_set ?_ GE492.out)|exact HB.out))));(case aL=>have:=LMc28.out;omega);intro v511 w30 ho hb hg hat;rw [← Ny510.out] at ho;have n0_:=Aside0.mk (blk_grown (g:=gb492) (o:=.cells #[.int .i64 a1_0,.int .i64 a1_1,.int .i64 a1_2] 39 (0,0)) (by (with_reducible repeat (first|refine blk_drewN ?_ _|refine blk_drew ?_|refine blk_alloc ?_ _));exact BK492.out) hg (Kd.R_away HO_5.out (fun _ hk=>hk)));have n1_:=Aside0.mk (hb);have n2_:=Aside0.mk (ho);clear BK492 HB HO_5;have BK492:=n0_;have HB:=n1_;have HO512:=n2_;clear n0_ n1_ n2_;clear ho hb hg hat))
           repeat (go_quiet (first|((with_reducible refine gate_builtin (b:=.append) (xs:=#[.tmp 39,.tmp 44]) rfl ?_);at_builtin;refine Kd.R_append k39 (w0:=w) w.heap.size rfl (.tmp 39) (.tmp 44) 23 39 (.agg #[(.int .i64 0),(.int .i64 0),(.int .i64 0)]) 24 rfl Try.underlying23 info39 rfl (by decide) (by omega) u5 x5_1 (⟨(rd_T39 l0 x7_1).f0,(rd_T39 l0 x7_1).f1,(rd_T39 l0 x7_1).f2⟩:S39) [.int .i64 ((rd_T39 l0 x7_1).f0),.int .i64 ((rd_T39 l0 x7_1).f1),.int .i64 ((rd_T39 l0 x7_1).f2)] (fun k_=>k_ ≠ gb492) (fun _=>False) rfl rfl ?aP (fun _ hk=>hk.elim) ?aF ?aO ?aB ?aS ?aL ?_;(case aP=>exact k39_mkM _ _ _ (⟨(rd_T39 l0 x7_1).f0,(rd_T39 l0 x7_1).f1,(rd_T39 l0 x7_1).f2⟩:S39));(case aB=>exact (by repeat (first|(with_reducible first|exact HB.out|apply below_alloc|apply pw_below_drewN|apply below_drew1|refine below_set ?_ GE492.out)|exact HB.out)));(case aF=>exact (fun k_ hk=>Kd.freshB (g:=gb492) (o:=.cells #[.int .i64 a1_0,.int .i64 a1_1,.int .i64 a1_2] 39 (0,0)) (by (with_reducible repeat (first|refine blk_drewN ?_ _|refine blk_drew ?_|refine blk_alloc ?_ _));exact BK492.out) k_ hk));(case aO=>exact (by (with_reducible repeat (first|apply Kd.R_alloc|apply Kd.R_drewN|apply Kd.R_drew));exact HO_5.out));(case aS=>exact (below_size (by repeat (first|(with_reducible first|exact HB.out|apply below_alloc|apply pw_below_drewN|apply below_drew1|refine below_set ?_ GE492.out)|exact HB.out))));(case aL=>have:=LMc28.out;omega);intro v511 w30 ho hb hg hat;rw [← Ny510.out] at ho;have n0_:=Aside0.mk (blk_grown (g:=gb492) (o:=.cells #[.int .i64 a1_0,.int .i64 a1_1,.int .i64 a1_2] 39 (0,0)) (by (with_reducible repeat (first|refine blk_drewN ?_ _|refine blk_drew ?_|refine blk_alloc ?_ _));exact BK492.out) hg (Kd.R_away HO_5.out (fun _ hk=>hk)));have n1_:=Aside0.mk (hb);have n2_:=Aside0.mk (ho);clear BK492 HB HO_5;have BK492:=n0_;have HB:=n1_;have HO512:=n2_;clear n0_ n1_ n2_;clear ho hb hg hat));try go_wp2_with (first|((with_reducible refine gate_builtin (b:=.append) (xs:=#[.tmp 39,.tmp 44]) rfl ?_);at_builtin;refine Kd.R_append k39 (w0:=w) w.heap.size rfl (.tmp 39) (.tmp 44) 23 39 (.agg #[(.int .i64 0),(.int .i64 0),(.int .i64 0)]) 24 rfl Try.underlying23 info39 rfl (by decide) (by omega) u5 x5_1 (⟨(rd_T39 l0 x7_1).f0,(rd_T39 l0 x7_1).f1,(rd_T39 l0 x7_1).f2⟩:S39) [.int .i64 ((rd_T39 l0 x7_1).f0),.int .i64 ((rd_T39 l0 x7_1).f1),.int .i64 ((rd_T39 l0 x7_1).f2)] (fun k_=>k_ ≠ gb492) (fun _=>False) rfl rfl ?aP (fun _ hk=>hk.elim) ?aF ?aO ?aB ?aS ?aL ?_;(case aP=>exact k39_mkM _ _ _ (⟨(rd_T39 l0 x7_1).f0,(rd_T39 l0 x7_1).f1,(rd_T39 l0 x7_1).f2⟩:S39));(case aB=>exact (by repeat (first|(with_reducible first|exact HB.out|apply below_alloc|apply pw_below_drewN|apply below_drew1|refine below_set ?_ GE492.out)|exact HB.out)));(case aF=>exact (fun k_ hk=>Kd.freshB (g:=gb492) (o:=.cells #[.int .i64 a1_0,.int .i64 a1_1,.int .i64 a1_2] 39 (0,0)) (by (with_reducible repeat (first|refine blk_drewN ?_ _|refine blk_drew ?_|refine blk_alloc ?_ _));exact BK492.out) k_ hk));(case aO=>exact (by (with_reducible repeat (first|apply Kd.R_alloc|apply Kd.R_drewN|apply Kd.R_drew));exact HO_5.out));(case aS=>exact (below_size (by repeat (first|(with_reducible first|exact HB.out|apply below_alloc|apply pw_below_drewN|apply below_drew1|refine below_set ?_ GE492.out)|exact HB.out))));(case aL=>have:=LMc28.out;omega);intro v511 w30 ho hb hg hat;rw [← Ny510.out] at ho;have n0_:=Aside0.mk (blk_grown (g:=gb492) (o:=.cells #[.int .i64 a1_0,.int .i64 a1_1,.int .i64 a1_2] 39 (0,0)) (by (with_reducible repeat (first|refine blk_drewN ?_ _|refine blk_drew ?_|refine blk_alloc ?_ _));exact BK492.out) hg (Kd.R_away HO_5.out (fun _ hk=>hk)));have n1_:=Aside0.mk (hb);have n2_:=Aside0.mk (ho);clear BK492 HB HO_5;have BK492:=n0_;have HB:=n1_;have HO512:=n2_;clear n0_ n1_ n2_;clear ho hb hg hat)))
           go_roundg kj6
           case measure=>have:=HK1.out;have:=HJ6.out;omega
           case rel=>exact ⟨(y510),(x6_1),(wrap64 (x7_1+1)),(by first|rfl|(simp;done)|(simp [*];done)),(by first|rfl|(simp;done)|(simp [*];done)),H',⟨by have:=HK1.out;have:=HJ6.out;omega⟩,⟨by (with_reducible repeat (first|apply Kd.R_alloc|apply Kd.R_drewN|apply Kd.R_drew));exact HO512.out⟩,⟨by (with_reducible repeat (first|refine blk_drewN ?_ _|refine blk_drew ?_|refine blk_alloc ?_ _));exact BK492.out⟩,⟨by repeat (first|(with_reducible first|exact HB.out|apply below_alloc|apply pw_below_drewN|apply below_drew1|refine below_set ?_ GE492.out)|exact HB.out)⟩⟩
          ·rw [if_neg c28] at H
           exact absurd H (by simp)
        ·rw [if_neg c25] at H
         exact absurd H (by simp)
       ·rw [if_neg c24] at H
        exact absurd H (by simp)
   ·rw [if_neg c6] at H
    have c6b0:decide (x7_1 < (l0.length:Int))=false:=decide_eq_false c6
    clear c6
    by_cases c31:x6_1=true
    ·subst c31
     have H1:(some x5_1)=some r:=by rw [if_pos rfl] at H;exact H
     clear H
     have H:=H1
     clear H1
     obtain rfl:=Option.some.inj H
     go_wp2
     repeat (go_quiet (fail);try go_wp2)
     go_ret
     exact ⟨_,by first|rfl|(simp [errW_none,errW_some] <;> rfl)|(simp [*,errW_none,errW_some] <;> rfl),by (with_reducible repeat (first|apply Kd.R_alloc|apply Kd.R_drewN|apply Kd.R_drew));exact Kd.R_mono HO_5.out (fun _ hk=>trivial),by repeat (first|(with_reducible first|exact HB.out|apply below_alloc|apply pw_below_drewN|apply below_drew1|refine below_set ?_ GE492.out)|exact HB.out)⟩
    ·replace c31:=Bool.eq_false_iff.mpr c31
     subst c31
     have H1:(if x5_1.length < 5864062014805 then (some (x5_1 ++ [(⟨a1_0,a1_1,a1_2⟩:S39)])) else (none))=some r:=by rw [if_neg (show ¬ (false=true) by decide)] at H;exact H
     clear H
     have H:=H1
     clear H1
     by_cases c32:x5_1.length < 5864062014805
     ·rw [if_pos c32] at H
      have LMc32:=Aside0.mk c32
      clear c32
      obtain ⟨y496,hy496⟩:∃ y_:List (S39),y_=(x5_1 ++ [(⟨a1_0,a1_1,a1_2⟩:S39)]):=⟨_,rfl⟩
      replace H:(some y496)=some r:=by first|(rw [hy496];with_reducible exact H)|(have H2_:=(Option.bind_some _ _).symm.trans H;rw [hy496];with_reducible exact H2_)|(have H2_:=(Option.bind_some _ _).symm.trans H;with_reducible exact H2_)|with_reducible exact H|(rw [hy496];exact H)|exact H
      have Ny496:=Aside0.mk hy496
      clear hy496
      obtain rfl:=Option.some.inj H
      have hcz33_0:wr.cell? ⟨gb492,0,none⟩=some (.int .i64 a1_0):=(blk_cell BK492.out 0).trans rfl
      have hcz33_1:wr.cell? ⟨gb492,1,none⟩=some (.int .i64 a1_1):=(blk_cell BK492.out 1).trans rfl
      have hcz33_2:wr.cell? ⟨gb492,2,none⟩=some (.int .i64 a1_2):=(blk_cell BK492.out 2).trans rfl
      have hfz33_0:=blk_frozen BK492.out 0
      have hfz33_1:=blk_frozen BK492.out 1
      have hfz33_2:=blk_frozen BK492.out 2
      go_wp2_with (first|((with_reducible refine gate_builtin (b:=.append) (xs:=#[.tmp 48,.tmp 50]) rfl ?_);at_builtin;refine Kd.R_append k39 (w0:=w) w.heap.size rfl (.tmp 48) (.tmp 50) 23 39 (.agg #[(.int .i64 0),(.int .i64 0),(.int .i64 0)]) 24 rfl Try.underlying23 info39 rfl (by decide) (by omega) u5 x5_1 (⟨a1_0,a1_1,a1_2⟩:S39) [.int .i64 a1_0,.int .i64 a1_1,.int .i64 a1_2] (fun k_=>k_ ≠ gb492) (fun _=>False) rfl rfl ?aP (fun _ hk=>hk.elim) ?aF ?aO ?aB ?aS ?aL ?_;(case aP=>exact k39_mkM _ _ _ (⟨a1_0,a1_1,a1_2⟩:S39));(case aB=>exact (by repeat (first|(with_reducible first|exact HB.out|apply below_alloc|apply pw_below_drewN|apply below_drew1|refine below_set ?_ GE492.out)|exact HB.out)));(case aF=>exact (fun k_ hk=>Kd.freshB (g:=gb492) (o:=.cells #[.int .i64 a1_0,.int .i64 a1_1,.int .i64 a1_2] 39 (0,0)) (by (with_reducible repeat (first|refine blk_drewN ?_ _|refine blk_drew ?_|refine blk_alloc ?_ _));exact BK492.out) k_ hk));(case aO=>exact (by (with_reducible repeat (first|apply Kd.R_alloc|apply Kd.R_drewN|apply Kd.R_drew));exact HO_5.out));(case aS=>exact (below_size (by repeat (first|(with_reducible first|exact HB.out|apply below_alloc|apply pw_below_drewN|apply below_drew1|refine below_set ?_ GE492.out)|exact HB.out))));(case aL=>have:=LMc32.out;omega);intro v497 w34 ho hb hg hat;rw [← Ny496.out] at ho;have n0_:=Aside0.mk (blk_grown (g:=gb492) (o:=.cells #[.int .i64 a1_0,.int .i64 a1_1,.int .i64 a1_2] 39 (0,0)) (by (with_reducible repeat (first|refine blk_drewN ?_ _|refine blk_drew ?_|refine blk_alloc ?_ _));exact BK492.out) hg (Kd.R_away HO_5.out (fun _ hk=>hk)));have n1_:=Aside0.mk (hb);have n2_:=Aside0.mk (ho);clear BK492 HB HO_5;have BK492:=n0_;have HB:=n1_;have HO498:=n2_;clear n0_ n1_ n2_;clear ho hb hg hat))
      repeat (go_quiet (first|((with_reducible refine gate_builtin (b:=.append) (xs:=#[.tmp 48,.tmp 50]) rfl ?_);at_builtin;refine Kd.R_append k39 (w0:=w) w.heap.size rfl (.tmp 48) (.tmp 50) 23 39 (.agg #[(.int .i64 0),(.int .i64 0),(.int .i64 0)]) 24 rfl Try.underlying23 info39 rfl (by decide) (by omega) u5 x5_1 (⟨a1_0,a1_1,a1_2⟩:S39) [.int .i64 a1_0,.int .i64 a1_1,.int .i64 a1_2] (fun k_=>k_ ≠ gb492) (fun _=>False) rfl rfl ?aP (fun _ hk=>hk.elim) ?aF ?aO ?aB ?aS ?aL ?_;(case aP=>exact k39_mkM _ _ _ (⟨a1_0,a1_1,a1_2⟩:S39));(case aB=>exact (by repeat (first|(with_reducible first|exact HB.out|apply below_alloc|apply pw_below_drewN|apply below_drew1|refine below_set ?_ GE492.out)|exact HB.out)));(case aF=>exact (fun k_ hk=>Kd.freshB (g:=gb492) (o:=.cells #[.int .i64 a1_0,.int .i64 a1_1,.int .i64 a1_2] 39 (0,0)) (by (with_reducible repeat (first|refine blk_drewN ?_ _|refine blk_drew ?_|refine blk_alloc ?_ _));exact BK492.out) k_ hk));(case aO=>exact (by (with_reducible repeat (first|apply Kd.R_alloc|apply Kd.R_drewN|apply Kd.R_drew));exact HO_5.out));(case aS=>exact (below_size (by repeat (first|(with_reducible first|exact HB.out|apply below_alloc|apply pw_below_drewN|apply below_drew1|refine below_set ?_ GE492.out)|exact HB.out))));(case aL=>have:=LMc32.out;omega);intro v497 w34 ho hb hg hat;rw [← Ny496.out] at ho;have n0_:=Aside0.mk (blk_grown (g:=gb492) (o:=.cells #[.int .i64 a1_0,.int .i64 a1_1,.int .i64 a1_2] 39 (0,0)) (by (with_reducible repeat (first|refine blk_drewN ?_ _|refine blk_drew ?_|refine blk_alloc ?_ _));exact BK492.out) hg (Kd.R_away HO_5.out (fun _ hk=>hk)));have n1_:=Aside0.mk (hb);have n2_:=Aside0.mk (ho);clear BK492 HB HO_5;have BK492:=n0_;have HB:=n1_;have HO498:=n2_;clear n0_ n1_ n2_;clear ho hb hg hat));try go_wp2_with (first|((with_reducible refine gate_builtin (b:=.append) (xs:=#[.tmp 48,.tmp 50]) rfl ?_);at_builtin;refine Kd.R_append k39 (w0:=w) w.heap.size rfl (.tmp 48) (.tmp 50) 23 39 (.agg #[(.int .i64 0),(.int .i64 0),(.int .i64 0)]) 24 rfl Try.underlying23 info39 rfl (by decide) (by omega) u5 x5_1 (⟨a1_0,a1_1,a1_2⟩:S39) [.int .i64 a1_0,.int .i64 a1_1,.int .i64 a1_2] (fun k_=>k_ ≠ gb492) (fun _=>False) rfl rfl ?aP (fun _ hk=>hk.elim) ?aF ?aO ?aB ?aS ?aL ?_;(case aP=>exact k39_mkM _ _ _ (⟨a1_0,a1_1,a1_2⟩:S39));(case aB=>exact (by repeat (first|(with_reducible first|exact HB.out|apply below_alloc|apply pw_below_drewN|apply below_drew1|refine below_set ?_ GE492.out)|exact HB.out)));(case aF=>exact (fun k_ hk=>Kd.freshB (g:=gb492) (o:=.cells #[.int .i64 a1_0,.int .i64 a1_1,.int .i64 a1_2] 39 (0,0)) (by (with_reducible repeat (first|refine blk_drewN ?_ _|refine blk_drew ?_|refine blk_alloc ?_ _));exact BK492.out) k_ hk));(case aO=>exact (by (with_reducible repeat (first|apply Kd.R_alloc|apply Kd.R_drewN|apply Kd.R_drew));exact HO_5.out));(case aS=>exact (below_size (by repeat (first|(with_reducible first|exact HB.out|apply below_alloc|apply pw_below_drewN|apply below_drew1|refine below_set ?_ GE492.out)|exact HB.out))));(case aL=>have:=LMc32.out;omega);intro v497 w34 ho hb hg hat;rw [← Ny496.out] at ho;have n0_:=Aside0.mk (blk_grown (g:=gb492) (o:=.cells #[.int .i64 a1_0,.int .i64 a1_1,.int .i64 a1_2] 39 (0,0)) (by (with_reducible repeat (first|refine blk_drewN ?_ _|refine blk_drew ?_|refine blk_alloc ?_ _));exact BK492.out) hg (Kd.R_away HO_5.out (fun _ hk=>hk)));have n1_:=Aside0.mk (hb);have n2_:=Aside0.mk (ho);clear BK492 HB HO_5;have BK492:=n0_;have HB:=n1_;have HO498:=n2_;clear n0_ n1_ n2_;clear ho hb hg hat)))
      go_ret
      exact ⟨_,by first|rfl|(simp [errW_none,errW_some] <;> rfl)|(simp [*,errW_none,errW_some] <;> rfl),by (with_reducible repeat (first|apply Kd.R_alloc|apply Kd.R_drewN|apply Kd.R_drew));exact Kd.R_mono HO498.out (fun _ hk=>trivial),by repeat (first|(with_reducible first|exact HB.out|apply below_alloc|apply pw_below_drewN|apply below_drew1|refine below_set ?_ GE492.out)|exact HB.out)⟩
     ·rw [if_neg c32] at H
      exact absurd H (by simp)
end Go.Proofs.Ytkhmopmfbocokaa.T
namespace Go.Proofs.Ytkhmopmfbocokaa.T
open Go.RowKit Go.Proofs.YtkhmopmfbocokaaW.PrintWords Go.Proofs.YtkhmopmfbocokaaW.PrintLast Go.Proofs.YtkhmopmfbocokaaW.PrintMore
attribute [local go_sem] max2_int max_two
set_option linter.unusedVariables false
set_option linter.unusedSimpArgs false
def spec_ProducersPut.f (k:Nat) (l0:List (S39)) (a1_0:Bool) (a1_1:Bool) (a1_2:Int) (a1_3:Int) (a1_4:Int) (l1_5:List (S79)):Option ((List (S39)) × Int):=(spec_ProducersCheck.f k l0 a1_0 a1_1 a1_2 a1_3 a1_4 l1_5).bind fun t514=>(if t514=5 then (some ((([]:List (S39))),5)) else ((some (([]:List (S39)):List (S39))).bind fun y518=>(if y518.length+l0.length < 5864062014805 then ((some (y518 ++ l0:List (S39))).bind fun y521=>(if t514=0 then ((spec_l21Put.f k l0 a1_2 a1_3 (wrap64 (a1_4+(l1_5.length:Int)))).bind fun t524=>((spec_ProducersValid.f k t524).bind fun t527=>(if t527=true then (some (t524,t514)) else (some ((([]:List (S39))),5))))) else ((spec_ProducersValid.f k y521).bind fun t531=>(if t531=true then (some (y521,t514)) else (some ((([]:List (S39))),5)))))) else (none))))
set_option maxHeartbeats 8000000 in
set_option maxRecDepth 100000 in
theorem spec_ProducersPut.calls (k:Nat) (A0:Option Addr) (c0:Nat) (l0:List (S39)) (a1_0:Bool) (a1_1:Bool) (a1_2:Int) (a1_3:Int) (a1_4:Int) (A1_5:Option Addr) (c1_5:Nat) (l1_5:List (S79)) (r1:List (S39)) (r2:Int) (w:World) (hr0:Kd.C k39 w A0 l0.length l0) (hc0:l0.length ≤ c0) (hr1_5:Kd.C k79 w A1_5 l1_5.length l1_5) (hc1_5:l1_5.length ≤ c1_5) (h:spec_ProducersPut.f k l0 a1_0 a1_1 a1_2 a1_3 a1_4 l1_5=some (r1,r2)) :
  Calls Try.prog 30 #[.slice A0 l0.length c0,.agg #[.bool a1_0,.bool a1_1,.int .i64 a1_2,.int .i64 a1_3,.int .i64 a1_4,.slice A1_5 l1_5.length c1_5]] w fun e w'=>∃ v0_:Value,e = .returned (.tuple #[v0_,.int .i64 r2])∧Kd.R k39 39 w' w.heap.size (fun _=>True) v0_ r1∧Below w.heap.size w w':=by
 have hu34:=Try.underlying34
 have hu39:=Try.underlying39
 have HR0:=Aside0.mk hr0
 have HC0:=Aside0.mk hc0
 clear hr0 hc0
 have HR1_5:=Aside0.mk hr1_5
 have HC1_5:=Aside0.mk hc1_5
 clear hr1_5 hc1_5
 have HB:=Aside0.mk (Below.refl w.heap.size w)
 have H:((spec_ProducersCheck.f k l0 a1_0 a1_1 a1_2 a1_3 a1_4 l1_5).bind fun t514=>(if t514=5 then (some ((([]:List (S39))),5)) else ((some (([]:List (S39)):List (S39))).bind fun y518=>(if y518.length+l0.length < 5864062014805 then ((some (y518 ++ l0:List (S39))).bind fun y521=>(if t514=0 then ((spec_l21Put.f k l0 a1_2 a1_3 (wrap64 (a1_4+(l1_5.length:Int)))).bind fun t524=>((spec_ProducersValid.f k t524).bind fun t527=>(if t527=true then (some (t524,t514)) else (some ((([]:List (S39))),5))))) else ((spec_ProducersValid.f k y521).bind fun t531=>(if t531=true then (some (y521,t514)) else (some ((([]:List (S39))),5)))))) else (none)))))=some (r1,r2):=h
 clear h
 replace H:=Option.bind_eq_some_iff.mp H
 obtain ⟨t514,A30,H⟩:=H
 replace H:(if t514=5 then (some ((([]:List (S39))),5)) else ((some (([]:List (S39)):List (S39))).bind fun y518=>(if y518.length+l0.length < 5864062014805 then ((some (y518 ++ l0:List (S39))).bind fun y521=>(if t514=0 then ((spec_l21Put.f k l0 a1_2 a1_3 (wrap64 (a1_4+(l1_5.length:Int)))).bind fun t524=>((spec_ProducersValid.f k t524).bind fun t527=>(if t527=true then (some (t524,t514)) else (some ((([]:List (S39))),5))))) else ((spec_ProducersValid.f k y521).bind fun t531=>(if t531=true then (some (y521,t514)) else (some ((([]:List (S39))),5)))))) else (none))))=some (r1,r2):=H
 have A3:=Aside0.mk A30
 clear A30
 by_cases c4:t514=5
 ·rw [if_pos c4] at H
  have c4b0:(t514 == 5)=true:=beq_iff_eq.mpr c4
  have c4b1:(t514 != 5)=false:=bne_eq_false_iff_eq.mpr c4
  clear c4
  obtain ⟨y515,hy515⟩:∃ y_:List (S39),y_=(([]:List (S39))):=⟨_,rfl⟩
  replace H:(some (y515,5))=some (r1,r2):=by first|(rw [hy515];with_reducible exact H)|(have H2_:=(Option.bind_some _ _).symm.trans H;rw [hy515];with_reducible exact H2_)|(have H2_:=(Option.bind_some _ _).symm.trans H;with_reducible exact H2_)|with_reducible exact H|(rw [hy515];exact H)|exact H
  have Ny515:=Aside0.mk hy515
  clear hy515
  simp only [Option.some.injEq,Prod.mk.injEq] at H
  obtain ⟨rfl,rfl⟩:=H
  go_enter Try.func30,Try.ntmps30
  go_wp2_with (first|((with_reducible refine gate_dst (N:=3) rfl ?_);refine box_event ?hg (N:=3) ?hd (cs:=#[.bool a1_0,.bool a1_1,.int .i64 a1_2,.int .i64 a1_3,.int .i64 a1_4,.slice A1_5 l1_5.length c1_5]) (t:=34) ?hr ?_;(case hd=>rfl);(case hg=>rfl);(case hr=>first|(go_simp;done)|(go_simp;rfl));intro gb513 hg w5 hbox hb;have n0_:=Aside0.mk (below_step (by repeat (first|(with_reducible first|exact HB.out|apply below_alloc|apply pw_below_drewN|apply below_drew1)|exact HB.out)) hb);have n1_:=Aside0.mk (hbox);have n2_:=Aside0.mk ((by rw [hg];exact (below_size (by repeat (first|(with_reducible first|exact HB.out|apply below_alloc|apply pw_below_drewN|apply below_drew1)|exact HB.out))):w.heap.size ≤ gb513));have n3_:=Aside0.mk ((by rw [hg];exact (below_size (by repeat (first|(with_reducible first|exact HB.out|apply below_alloc|apply pw_below_drewN|apply below_drew1)|exact HB.out))):w.heap.size ≤ gb513));clear HB;have HB:=n0_;have BK513:=n1_;have GW513:=n2_;have GE513:=n3_;clear n0_ n1_ n2_ n3_;clear hb hbox hg;have hcz6_0:w5.cell? ⟨gb513,0,none⟩=some (.bool a1_0):=(blk_cell BK513.out 0).trans rfl;have hcz6_1:w5.cell? ⟨gb513,1,none⟩=some (.bool a1_1):=(blk_cell BK513.out 1).trans rfl;have hcz6_2:w5.cell? ⟨gb513,2,none⟩=some (.int .i64 a1_2):=(blk_cell BK513.out 2).trans rfl;have hcz6_3:w5.cell? ⟨gb513,3,none⟩=some (.int .i64 a1_3):=(blk_cell BK513.out 3).trans rfl;have hcz6_4:w5.cell? ⟨gb513,4,none⟩=some (.int .i64 a1_4):=(blk_cell BK513.out 4).trans rfl;have hcz6_5:w5.cell? ⟨gb513,5,none⟩=some (.slice A1_5 l1_5.length c1_5):=(blk_cell BK513.out 5).trans rfl;have hfz6_0:=blk_frozen BK513.out 0;have hfz6_1:=blk_frozen BK513.out 1;have hfz6_2:=blk_frozen BK513.out 2;have hfz6_3:=blk_frozen BK513.out 3;have hfz6_4:=blk_frozen BK513.out 4;have hfz6_5:=blk_frozen BK513.out 5)|((with_reducible refine gate_callee (f:=26) rfl ?_);refine goesL_ (some 10) rfl rfl Try.func26 (by kernel_rfl) rfl #[.slice A0 l0.length c0,.agg #[.bool a1_0,.bool a1_1,.int .i64 a1_2,.int .i64 a1_3,.int .i64 a1_4,.slice A1_5 l1_5.length c1_5]] rfl (by (try simp only [map_toArray,map_cons,map_nil]);first|done|rfl|(simp only [length_drop,length_take];rfl)) ?_;(with_reducible refine (spec_ProducersCheck.calls k _ _ l0 a1_0 a1_1 a1_2 a1_3 a1_4 _ _ l1_5 t514 _ ?side1 ?side2 ?side3 ?side4 A3.out).mono ?_);(case side1=>repeat (first|exact (Kd.C_below HR0.out HB.out)|(with_reducible refine Kd.C_alloc ?_ _)|(with_reducible refine Kd.C_drewN ?_ _)|(with_reducible refine Kd.C_drew ?_)));(case side2=>exact HC0.out);(case side3=>repeat (first|exact (Kd.C_below HR1_5.out HB.out)|(with_reducible refine Kd.C_alloc ?_ _)|(with_reducible refine Kd.C_drewN ?_ _)|(with_reducible refine Kd.C_drew ?_)));(case side4=>exact HC1_5.out);rintro e w7 ⟨rfl,hb⟩;refine ⟨_,rfl,?_⟩;have n0_:=Aside0.mk (blk_below (g:=gb513) (o:=.cells #[.bool a1_0,.bool a1_1,.int .i64 a1_2,.int .i64 a1_3,.int .i64 a1_4,.slice A1_5 l1_5.length c1_5] 34 (0,0)) (by (with_reducible repeat (first|refine blk_drewN ?_ _|refine blk_drew ?_|refine blk_alloc ?_ _));exact BK513.out) hb);have n1_:=Aside0.mk (below_step (by repeat (first|(with_reducible first|exact HB.out|apply below_alloc|apply pw_below_drewN|apply below_drew1|refine below_set ?_ GE513.out)|exact HB.out)) hb);clear BK513 HB;have BK513:=n0_;have HB:=n1_;clear n0_ n1_;(try clear hb);(try clear hb2);(try clear hk);(try clear hi))|((with_reducible refine gate_dst (N:=13) rfl ?_);refine Kd.R_lit k39 _ 39 ?hg (N:=13) ?hd (xs:=([]:List (S39))) (inner:=[]) (ok:=fun _=>True) (okp:=fun _=>True) ?hr ?hp (fun _ hk=>hk) trivial (Below.refl _ _) (Nat.le_refl _) (by simp) ?_;(case hd=>rfl);(case hg=>rfl);(case hr=>first|(go_simp;done)|(go_simp;rfl));(case hp=>exact (Reps.none _ _));intro v516 w8 ho9 hb hg_ hnew_;clear hg_ hnew_;(first|rw [← Ny515.out] at ho9|(simp only [Int.reduceToNat] at ho9;rw [← Ny515.out] at ho9));have n0_:=Aside0.mk (Kd.R_lower ho9 (below_size (by repeat (first|(with_reducible first|exact HB.out|apply below_alloc|apply pw_below_drewN|apply below_drew1|refine below_set ?_ GE513.out)|exact HB.out))));have n1_:=Aside0.mk (blk_below (g:=gb513) (o:=.cells #[.bool a1_0,.bool a1_1,.int .i64 a1_2,.int .i64 a1_3,.int .i64 a1_4,.slice A1_5 l1_5.length c1_5] 34 (0,0)) (by (with_reducible repeat (first|refine blk_drewN ?_ _|refine blk_drew ?_|refine blk_alloc ?_ _));exact BK513.out) hb);have n2_:=Aside0.mk (below_step (by repeat (first|(with_reducible first|exact HB.out|apply below_alloc|apply pw_below_drewN|apply below_drew1|refine below_set ?_ GE513.out)|exact HB.out)) hb);clear BK513 HB;have HO517:=n0_;have BK513:=n1_;have HB:=n2_;clear n0_ n1_ n2_;clear hb ho9))
  go_ret2
  exact ⟨_,by first|rfl|(simp [errW_none,errW_some] <;> rfl)|(simp [*,errW_none,errW_some] <;> rfl),by (with_reducible repeat (first|apply Kd.R_alloc|apply Kd.R_drewN|apply Kd.R_drew));exact HO517.out,by repeat (first|(with_reducible first|exact HB.out|apply below_alloc|apply pw_below_drewN|apply below_drew1|refine below_set ?_ GE513.out)|exact HB.out)⟩
 ·rw [if_neg c4] at H
  have c4b0:(t514 == 5)=false:=beq_eq_false_iff_ne.mpr c4
  have c4b1:(t514 != 5)=true:=bne_iff_ne.mpr c4
  obtain ⟨y518,hy518⟩:∃ y_:List (S39),y_=(([]:List (S39))):=⟨_,rfl⟩
  replace H:(if y518.length+l0.length < 5864062014805 then ((some (y518 ++ l0:List (S39))).bind fun y521=>(if t514=0 then ((spec_l21Put.f k l0 a1_2 a1_3 (wrap64 (a1_4+(l1_5.length:Int)))).bind fun t524=>((spec_ProducersValid.f k t524).bind fun t527=>(if t527=true then (some (t524,t514)) else (some ((([]:List (S39))),5))))) else ((spec_ProducersValid.f k y521).bind fun t531=>(if t531=true then (some (y521,t514)) else (some ((([]:List (S39))),5)))))) else (none))=some (r1,r2):=by first|(rw [hy518];with_reducible exact H)|(have H2_:=(Option.bind_some _ _).symm.trans H;rw [hy518];with_reducible exact H2_)|(have H2_:=(Option.bind_some _ _).symm.trans H;with_reducible exact H2_)|with_reducible exact H|(rw [hy518];exact H)|exact H
  have Ny518:=Aside0.mk hy518
  clear hy518
  by_cases c10:y518.length+l0.length < 5864062014805
  ·rw [if_pos c10] at H
   have LMc10:=Aside0.mk c10
   clear c10
   obtain ⟨y521,hy521⟩:∃ y_:List (S39),y_=(y518 ++ l0):=⟨_,rfl⟩
   replace H:(if t514=0 then ((spec_l21Put.f k l0 a1_2 a1_3 (wrap64 (a1_4+(l1_5.length:Int)))).bind fun t524=>((spec_ProducersValid.f k t524).bind fun t527=>(if t527=true then (some (t524,t514)) else (some ((([]:List (S39))),5))))) else ((spec_ProducersValid.f k y521).bind fun t531=>(if t531=true then (some (y521,t514)) else (some ((([]:List (S39))),5)))))=some (r1,r2):=by first|(rw [hy521];with_reducible exact H)|(have H2_:=(Option.bind_some _ _).symm.trans H;rw [hy521];with_reducible exact H2_)|(have H2_:=(Option.bind_some _ _).symm.trans H;with_reducible exact H2_)|with_reducible exact H|(rw [hy521];exact H)|exact H
   have Ny521:=Aside0.mk hy521
   clear hy521
   by_cases c11:t514=0
   ·rw [if_pos c11] at H
    have c11b0:(t514 == 0)=true:=beq_iff_eq.mpr c11
    have c11b1:(t514 != 0)=false:=bne_eq_false_iff_eq.mpr c11
    clear c11
    replace H:=Option.bind_eq_some_iff.mp H
    obtain ⟨t524,A120,H⟩:=H
    replace H:((spec_ProducersValid.f k t524).bind fun t527=>(if t527=true then (some (t524,t514)) else (some ((([]:List (S39))),5))))=some (r1,r2):=H
    have A12:=Aside0.mk A120
    clear A120
    replace H:=Option.bind_eq_some_iff.mp H
    obtain ⟨t527,A130,H⟩:=H
    replace H:(if t527=true then (some (t524,t514)) else (some ((([]:List (S39))),5)))=some (r1,r2):=H
    have A13:=Aside0.mk A130
    clear A130
    by_cases c14:t527=true
    ·subst c14
     have H1:(some (t524,t514))=some (r1,r2):=by rw [if_pos rfl] at H;exact H
     clear H
     have H:=H1
     clear H1
     simp only [Option.some.injEq,Prod.mk.injEq] at H
     obtain ⟨rfl,rfl⟩:=H
     go_enter Try.func30,Try.ntmps30
     go_wp2_with (first|((with_reducible refine gate_dst (N:=3) rfl ?_);refine box_event ?hg (N:=3) ?hd (cs:=#[.bool a1_0,.bool a1_1,.int .i64 a1_2,.int .i64 a1_3,.int .i64 a1_4,.slice A1_5 l1_5.length c1_5]) (t:=34) ?hr ?_;(case hd=>rfl);(case hg=>rfl);(case hr=>first|(go_simp;done)|(go_simp;rfl));intro gb513 hg w15 hbox hb;have n0_:=Aside0.mk (below_step (by repeat (first|(with_reducible first|exact HB.out|apply below_alloc|apply pw_below_drewN|apply below_drew1)|exact HB.out)) hb);have n1_:=Aside0.mk (hbox);have n2_:=Aside0.mk ((by rw [hg];exact (below_size (by repeat (first|(with_reducible first|exact HB.out|apply below_alloc|apply pw_below_drewN|apply below_drew1)|exact HB.out))):w.heap.size ≤ gb513));have n3_:=Aside0.mk ((by rw [hg];exact (below_size (by repeat (first|(with_reducible first|exact HB.out|apply below_alloc|apply pw_below_drewN|apply below_drew1)|exact HB.out))):w.heap.size ≤ gb513));clear HB;have HB:=n0_;have BK513:=n1_;have GW513:=n2_;have GE513:=n3_;clear n0_ n1_ n2_ n3_;clear hb hbox hg;have hcz16_0:w15.cell? ⟨gb513,0,none⟩=some (.bool a1_0):=(blk_cell BK513.out 0).trans rfl;have hcz16_1:w15.cell? ⟨gb513,1,none⟩=some (.bool a1_1):=(blk_cell BK513.out 1).trans rfl;have hcz16_2:w15.cell? ⟨gb513,2,none⟩=some (.int .i64 a1_2):=(blk_cell BK513.out 2).trans rfl;have hcz16_3:w15.cell? ⟨gb513,3,none⟩=some (.int .i64 a1_3):=(blk_cell BK513.out 3).trans rfl;have hcz16_4:w15.cell? ⟨gb513,4,none⟩=some (.int .i64 a1_4):=(blk_cell BK513.out 4).trans rfl;have hcz16_5:w15.cell? ⟨gb513,5,none⟩=some (.slice A1_5 l1_5.length c1_5):=(blk_cell BK513.out 5).trans rfl;have hfz16_0:=blk_frozen BK513.out 0;have hfz16_1:=blk_frozen BK513.out 1;have hfz16_2:=blk_frozen BK513.out 2;have hfz16_3:=blk_frozen BK513.out 3;have hfz16_4:=blk_frozen BK513.out 4;have hfz16_5:=blk_frozen BK513.out 5)|((with_reducible refine gate_callee (f:=26) rfl ?_);refine goesL_ (some 10) rfl rfl Try.func26 (by kernel_rfl) rfl #[.slice A0 l0.length c0,.agg #[.bool a1_0,.bool a1_1,.int .i64 a1_2,.int .i64 a1_3,.int .i64 a1_4,.slice A1_5 l1_5.length c1_5]] rfl (by (try simp only [map_toArray,map_cons,map_nil]);first|done|rfl|(simp only [length_drop,length_take];rfl)) ?_;(with_reducible refine (spec_ProducersCheck.calls k _ _ l0 a1_0 a1_1 a1_2 a1_3 a1_4 _ _ l1_5 t514 _ ?side1 ?side2 ?side3 ?side4 A3.out).mono ?_);(case side1=>repeat (first|exact (Kd.C_below HR0.out HB.out)|(with_reducible refine Kd.C_alloc ?_ _)|(with_reducible refine Kd.C_drewN ?_ _)|(with_reducible refine Kd.C_drew ?_)));(case side2=>exact HC0.out);(case side3=>repeat (first|exact (Kd.C_below HR1_5.out HB.out)|(with_reducible refine Kd.C_alloc ?_ _)|(with_reducible refine Kd.C_drewN ?_ _)|(with_reducible refine Kd.C_drew ?_)));(case side4=>exact HC1_5.out);rintro e w17 ⟨rfl,hb⟩;refine ⟨_,rfl,?_⟩;have n0_:=Aside0.mk (blk_below (g:=gb513) (o:=.cells #[.bool a1_0,.bool a1_1,.int .i64 a1_2,.int .i64 a1_3,.int .i64 a1_4,.slice A1_5 l1_5.length c1_5] 34 (0,0)) (by (with_reducible repeat (first|refine blk_drewN ?_ _|refine blk_drew ?_|refine blk_alloc ?_ _));exact BK513.out) hb);have n1_:=Aside0.mk (below_step (by repeat (first|(with_reducible first|exact HB.out|apply below_alloc|apply pw_below_drewN|apply below_drew1|refine below_set ?_ GE513.out)|exact HB.out)) hb);clear BK513 HB;have BK513:=n0_;have HB:=n1_;clear n0_ n1_;(try clear hb);(try clear hb2);(try clear hk);(try clear hi))|((with_reducible refine gate_dst (N:=14) rfl ?_);refine Kd.R_lit k39 _ 39 ?hg (N:=14) ?hd (xs:=([]:List (S39))) (inner:=[]) (ok:=fun _=>True) (okp:=fun _=>True) ?hr ?hp (fun _ hk=>hk) trivial (Below.refl _ _) (Nat.le_refl _) (by simp) ?_;(case hd=>rfl);(case hg=>rfl);(case hr=>first|(go_simp;done)|(go_simp;rfl));(case hp=>exact (Reps.none _ _));intro v519 w18 ho19 hb hg_ hnew_;clear hg_ hnew_;(first|rw [← Ny518.out] at ho19|(simp only [Int.reduceToNat] at ho19;rw [← Ny518.out] at ho19));have n0_:=Aside0.mk (Kd.R_lower ho19 (below_size (by repeat (first|(with_reducible first|exact HB.out|apply below_alloc|apply pw_below_drewN|apply below_drew1|refine below_set ?_ GE513.out)|exact HB.out))));have n1_:=Aside0.mk (blk_below (g:=gb513) (o:=.cells #[.bool a1_0,.bool a1_1,.int .i64 a1_2,.int .i64 a1_3,.int .i64 a1_4,.slice A1_5 l1_5.length c1_5] 34 (0,0)) (by (with_reducible repeat (first|refine blk_drewN ?_ _|refine blk_drew ?_|refine blk_alloc ?_ _));exact BK513.out) hb);have n2_:=Aside0.mk (below_step (by repeat (first|(with_reducible first|exact HB.out|apply below_alloc|apply pw_below_drewN|apply below_drew1|refine below_set ?_ GE513.out)|exact HB.out)) hb);clear BK513 HB;have HO520:=n0_;have BK513:=n1_;have HB:=n2_;clear n0_ n1_ n2_;clear hb ho19)|((with_reducible refine gate_builtin (b:=.append) (xs:=#[.tmp 14,.tmp 15]) rfl ?_);at_builtin;refine Kd.R_append_rows k39 (w0:=w) w.heap.size rfl (.tmp 14) (.tmp 15) 23 39 (.agg #[(.int .i64 0),(.int .i64 0),(.int .i64 0)]) 24 rfl Try.underlying23 info39 rfl (by decide) (by omega) v519 y518 l0 _ _ _ (fun _=>True) (fun _=>False) rfl rfl ?aO ?aR (fun _ _ h=>h) (fun _ h=>h.elim) ?aF ?aB ?aS ?aL ?_;(case aR=>repeat (first|exact (Kd.C_below HR0.out HB.out)|(with_reducible refine Kd.C_alloc ?_ _)|(with_reducible refine Kd.C_drewN ?_ _)|(with_reducible refine Kd.C_drew ?_)));(case aB=>exact (by repeat (first|(with_reducible first|exact HB.out|apply below_alloc|apply pw_below_drewN|apply below_drew1|refine below_set ?_ GE513.out)|exact HB.out)));(case aF=>exact (fun _ _=>trivial));(case aO=>exact (by (with_reducible repeat (first|apply Kd.R_alloc|apply Kd.R_drewN|apply Kd.R_drew));exact HO520.out));(case aS=>exact (below_size (by repeat (first|(with_reducible first|exact HB.out|apply below_alloc|apply pw_below_drewN|apply below_drew1|refine below_set ?_ GE513.out)|exact HB.out))));(case aL=>have:=LMc10.out;omega);intro v522 w20 ho hb hg hat;rw [← Ny521.out] at ho;have n0_:=Aside0.mk (blk_grown (g:=gb513) (o:=.cells #[.bool a1_0,.bool a1_1,.int .i64 a1_2,.int .i64 a1_3,.int .i64 a1_4,.slice A1_5 l1_5.length c1_5] 34 (0,0)) (by (with_reducible repeat (first|refine blk_drewN ?_ _|refine blk_drew ?_|refine blk_alloc ?_ _));exact BK513.out) hg (Kd.R_ne HO520.out BK513.out (by decide)));have n1_:=Aside0.mk (hb);have n2_:=Aside0.mk (ho);clear BK513 HB HO520;have BK513:=n0_;have HB:=n1_;have HO523:=n2_;clear n0_ n1_ n2_;clear ho hb hg hat;have hcz21_0:w20.cell? ⟨gb513,0,none⟩=some (.bool a1_0):=(blk_cell BK513.out 0).trans rfl;have hcz21_1:w20.cell? ⟨gb513,1,none⟩=some (.bool a1_1):=(blk_cell BK513.out 1).trans rfl;have hcz21_2:w20.cell? ⟨gb513,2,none⟩=some (.int .i64 a1_2):=(blk_cell BK513.out 2).trans rfl;have hcz21_3:w20.cell? ⟨gb513,3,none⟩=some (.int .i64 a1_3):=(blk_cell BK513.out 3).trans rfl;have hcz21_4:w20.cell? ⟨gb513,4,none⟩=some (.int .i64 a1_4):=(blk_cell BK513.out 4).trans rfl;have hcz21_5:w20.cell? ⟨gb513,5,none⟩=some (.slice A1_5 l1_5.length c1_5):=(blk_cell BK513.out 5).trans rfl;have hfz21_0:=blk_frozen BK513.out 0;have hfz21_1:=blk_frozen BK513.out 1;have hfz21_2:=blk_frozen BK513.out 2;have hfz21_3:=blk_frozen BK513.out 3;have hfz21_4:=blk_frozen BK513.out 4;have hfz21_5:=blk_frozen BK513.out 5)|((with_reducible refine gate_callee (f:=63) rfl ?_);refine goesL_ (some 31) rfl rfl Try.func63 (by kernel_rfl) rfl #[.slice A0 l0.length c0,.agg #[.int .i64 a1_2,.int .i64 a1_3,.int .i64 (wrap64 (a1_4+(l1_5.length:Int)))]] rfl (by (try simp only [map_toArray,map_cons,map_nil]);first|done|rfl|(simp only [length_drop,length_take];rfl)) ?_;(with_reducible refine (spec_l21Put.calls k _ _ l0 a1_2 a1_3 (wrap64 (a1_4+(l1_5.length:Int))) t524 _ ?side1 ?side2 A12.out).mono ?_);(case side1=>repeat (first|exact (Kd.C_below HR0.out HB.out)|(with_reducible refine Kd.C_alloc ?_ _)|(with_reducible refine Kd.C_drewN ?_ _)|(with_reducible refine Kd.C_drew ?_)));(case side2=>exact HC0.out);rintro e w22 ⟨v525,rfl,ho0,hb⟩;refine ⟨_,rfl,?_⟩;have n0_:=Aside0.mk (Kd.R_elder' (by (with_reducible repeat (first|apply Kd.R_alloc|apply Kd.R_drewN|apply Kd.R_drew));exact HO523.out) (Kd.R_base ho0) hb);have n1_:=Aside0.mk (Kd.R_lower (Kd.R_new' ho0 (Kd.R_lt (by (with_reducible repeat (first|apply Kd.R_alloc|apply Kd.R_drewN|apply Kd.R_drew));exact HO523.out))) (below_size (by repeat (first|(with_reducible first|exact HB.out|apply below_alloc|apply pw_below_drewN|apply below_drew1|refine below_set ?_ GE513.out)|exact HB.out))));have n2_:=Aside0.mk (blk_below (g:=gb513) (o:=.cells #[.bool a1_0,.bool a1_1,.int .i64 a1_2,.int .i64 a1_3,.int .i64 a1_4,.slice A1_5 l1_5.length c1_5] 34 (0,0)) (by (with_reducible repeat (first|refine blk_drewN ?_ _|refine blk_drew ?_|refine blk_alloc ?_ _));exact BK513.out) hb);have n3_:=Aside0.mk (below_step (by repeat (first|(with_reducible first|exact HB.out|apply below_alloc|apply pw_below_drewN|apply below_drew1|refine below_set ?_ GE513.out)|exact HB.out)) hb);clear HO523 BK513 HB;have HO523:=n0_;have HO526:=n1_;have BK513:=n2_;have HB:=n3_;clear n0_ n1_ n2_ n3_;(try clear hb);(try clear hb2);(try clear hk);(try clear hi);(try clear ho0);obtain ⟨Ao23,co23,eo23⟩:=Kd.R_slice HO526.out;subst eo23)|((with_reducible refine gate_callee (f:=20) rfl ?_);refine goesL_ (some 33) rfl rfl Try.func20 (by kernel_rfl) rfl #[.slice Ao23 t524.length co23] rfl (by (try simp only [map_toArray,map_cons,map_nil]);first|done|rfl|(simp only [length_drop,length_take];rfl)) ?_;(with_reducible refine (spec_ProducersValid.calls k _ _ t524 true _ ?side1 ?side2 A13.out).mono ?_);(case side1=>repeat (first|exact (Kd.R_reads' HO526.out).2.2|(with_reducible refine Kd.C_alloc ?_ _)|(with_reducible refine Kd.C_drewN ?_ _)|(with_reducible refine Kd.C_drew ?_)));(case side2=>exact (Kd.R_reads' HO526.out).2.1);rintro e w24 ⟨rfl,hb⟩;refine ⟨_,rfl,?_⟩;have n0_:=Aside0.mk (Kd.R_below (by (with_reducible repeat (first|apply Kd.R_alloc|apply Kd.R_drewN|apply Kd.R_drew));exact HO523.out) hb);have n1_:=Aside0.mk (Kd.R_below (by (with_reducible repeat (first|apply Kd.R_alloc|apply Kd.R_drewN|apply Kd.R_drew));exact HO526.out) hb);have n2_:=Aside0.mk (blk_below (g:=gb513) (o:=.cells #[.bool a1_0,.bool a1_1,.int .i64 a1_2,.int .i64 a1_3,.int .i64 a1_4,.slice A1_5 l1_5.length c1_5] 34 (0,0)) (by (with_reducible repeat (first|refine blk_drewN ?_ _|refine blk_drew ?_|refine blk_alloc ?_ _));exact BK513.out) hb);have n3_:=Aside0.mk (below_step (by repeat (first|(with_reducible first|exact HB.out|apply below_alloc|apply pw_below_drewN|apply below_drew1|refine below_set ?_ GE513.out)|exact HB.out)) hb);clear HO523 HO526 BK513 HB;have HO523:=n0_;have HO526:=n1_;have BK513:=n2_;have HB:=n3_;clear n0_ n1_ n2_ n3_;(try clear hb);(try clear hb2);(try clear hk);(try clear hi)))
     go_ret2
     exact ⟨_,by first|rfl|(simp [errW_none,errW_some] <;> rfl)|(simp [*,errW_none,errW_some] <;> rfl),by (with_reducible repeat (first|apply Kd.R_alloc|apply Kd.R_drewN|apply Kd.R_drew));exact Kd.R_mono HO526.out (fun _ hk=>trivial),by repeat (first|(with_reducible first|exact HB.out|apply below_alloc|apply pw_below_drewN|apply below_drew1|refine below_set ?_ GE513.out)|exact HB.out)⟩
    ·replace c14:=Bool.eq_false_iff.mpr c14
     subst c14
     have H1:(some ((([]:List (S39))),5))=some (r1,r2):=by rw [if_neg (show ¬ (false=true) by decide)] at H;exact H
     clear H
     have H:=H1
     clear H1
     obtain ⟨y528,hy528⟩:∃ y_:List (S39),y_=(([]:List (S39))):=⟨_,rfl⟩
     replace H:(some (y528,5))=some (r1,r2):=by first|(rw [hy528];with_reducible exact H)|(have H2_:=(Option.bind_some _ _).symm.trans H;rw [hy528];with_reducible exact H2_)|(have H2_:=(Option.bind_some _ _).symm.trans H;with_reducible exact H2_)|with_reducible exact H|(rw [hy528];exact H)|exact H
     have Ny528:=Aside0.mk hy528
     clear hy528
     simp only [Option.some.injEq,Prod.mk.injEq] at H
     obtain ⟨rfl,rfl⟩:=H
     go_enter Try.func30,Try.ntmps30
     go_wp2_with (first|((with_reducible refine gate_dst (N:=3) rfl ?_);refine box_event ?hg (N:=3) ?hd (cs:=#[.bool a1_0,.bool a1_1,.int .i64 a1_2,.int .i64 a1_3,.int .i64 a1_4,.slice A1_5 l1_5.length c1_5]) (t:=34) ?hr ?_;(case hd=>rfl);(case hg=>rfl);(case hr=>first|(go_simp;done)|(go_simp;rfl));intro gb513 hg w25 hbox hb;have n0_:=Aside0.mk (below_step (by repeat (first|(with_reducible first|exact HB.out|apply below_alloc|apply pw_below_drewN|apply below_drew1)|exact HB.out)) hb);have n1_:=Aside0.mk (hbox);have n2_:=Aside0.mk ((by rw [hg];exact (below_size (by repeat (first|(with_reducible first|exact HB.out|apply below_alloc|apply pw_below_drewN|apply below_drew1)|exact HB.out))):w.heap.size ≤ gb513));have n3_:=Aside0.mk ((by rw [hg];exact (below_size (by repeat (first|(with_reducible first|exact HB.out|apply below_alloc|apply pw_below_drewN|apply below_drew1)|exact HB.out))):w.heap.size ≤ gb513));clear HB;have HB:=n0_;have BK513:=n1_;have GW513:=n2_;have GE513:=n3_;clear n0_ n1_ n2_ n3_;clear hb hbox hg;have hcz26_0:w25.cell? ⟨gb513,0,none⟩=some (.bool a1_0):=(blk_cell BK513.out 0).trans rfl;have hcz26_1:w25.cell? ⟨gb513,1,none⟩=some (.bool a1_1):=(blk_cell BK513.out 1).trans rfl;have hcz26_2:w25.cell? ⟨gb513,2,none⟩=some (.int .i64 a1_2):=(blk_cell BK513.out 2).trans rfl;have hcz26_3:w25.cell? ⟨gb513,3,none⟩=some (.int .i64 a1_3):=(blk_cell BK513.out 3).trans rfl;have hcz26_4:w25.cell? ⟨gb513,4,none⟩=some (.int .i64 a1_4):=(blk_cell BK513.out 4).trans rfl;have hcz26_5:w25.cell? ⟨gb513,5,none⟩=some (.slice A1_5 l1_5.length c1_5):=(blk_cell BK513.out 5).trans rfl;have hfz26_0:=blk_frozen BK513.out 0;have hfz26_1:=blk_frozen BK513.out 1;have hfz26_2:=blk_frozen BK513.out 2;have hfz26_3:=blk_frozen BK513.out 3;have hfz26_4:=blk_frozen BK513.out 4;have hfz26_5:=blk_frozen BK513.out 5)|((with_reducible refine gate_callee (f:=26) rfl ?_);refine goesL_ (some 10) rfl rfl Try.func26 (by kernel_rfl) rfl #[.slice A0 l0.length c0,.agg #[.bool a1_0,.bool a1_1,.int .i64 a1_2,.int .i64 a1_3,.int .i64 a1_4,.slice A1_5 l1_5.length c1_5]] rfl (by (try simp only [map_toArray,map_cons,map_nil]);first|done|rfl|(simp only [length_drop,length_take];rfl)) ?_;(with_reducible refine (spec_ProducersCheck.calls k _ _ l0 a1_0 a1_1 a1_2 a1_3 a1_4 _ _ l1_5 t514 _ ?side1 ?side2 ?side3 ?side4 A3.out).mono ?_);(case side1=>repeat (first|exact (Kd.C_below HR0.out HB.out)|(with_reducible refine Kd.C_alloc ?_ _)|(with_reducible refine Kd.C_drewN ?_ _)|(with_reducible refine Kd.C_drew ?_)));(case side2=>exact HC0.out);(case side3=>repeat (first|exact (Kd.C_below HR1_5.out HB.out)|(with_reducible refine Kd.C_alloc ?_ _)|(with_reducible refine Kd.C_drewN ?_ _)|(with_reducible refine Kd.C_drew ?_)));(case side4=>exact HC1_5.out);rintro e w27 ⟨rfl,hb⟩;refine ⟨_,rfl,?_⟩;have n0_:=Aside0.mk (blk_below (g:=gb513) (o:=.cells #[.bool a1_0,.bool a1_1,.int .i64 a1_2,.int .i64 a1_3,.int .i64 a1_4,.slice A1_5 l1_5.length c1_5] 34 (0,0)) (by (with_reducible repeat (first|refine blk_drewN ?_ _|refine blk_drew ?_|refine blk_alloc ?_ _));exact BK513.out) hb);have n1_:=Aside0.mk (below_step (by repeat (first|(with_reducible first|exact HB.out|apply below_alloc|apply pw_below_drewN|apply below_drew1|refine below_set ?_ GE513.out)|exact HB.out)) hb);clear BK513 HB;have BK513:=n0_;have HB:=n1_;clear n0_ n1_;(try clear hb);(try clear hb2);(try clear hk);(try clear hi))|((with_reducible refine gate_dst (N:=14) rfl ?_);refine Kd.R_lit k39 _ 39 ?hg (N:=14) ?hd (xs:=([]:List (S39))) (inner:=[]) (ok:=fun _=>True) (okp:=fun _=>True) ?hr ?hp (fun _ hk=>hk) trivial (Below.refl _ _) (Nat.le_refl _) (by simp) ?_;(case hd=>rfl);(case hg=>rfl);(case hr=>first|(go_simp;done)|(go_simp;rfl));(case hp=>exact (Reps.none _ _));intro v519 w28 ho29 hb hg_ hnew_;clear hg_ hnew_;(first|rw [← Ny518.out] at ho29|(simp only [Int.reduceToNat] at ho29;rw [← Ny518.out] at ho29));have n0_:=Aside0.mk (Kd.R_lower ho29 (below_size (by repeat (first|(with_reducible first|exact HB.out|apply below_alloc|apply pw_below_drewN|apply below_drew1|refine below_set ?_ GE513.out)|exact HB.out))));have n1_:=Aside0.mk (blk_below (g:=gb513) (o:=.cells #[.bool a1_0,.bool a1_1,.int .i64 a1_2,.int .i64 a1_3,.int .i64 a1_4,.slice A1_5 l1_5.length c1_5] 34 (0,0)) (by (with_reducible repeat (first|refine blk_drewN ?_ _|refine blk_drew ?_|refine blk_alloc ?_ _));exact BK513.out) hb);have n2_:=Aside0.mk (below_step (by repeat (first|(with_reducible first|exact HB.out|apply below_alloc|apply pw_below_drewN|apply below_drew1|refine below_set ?_ GE513.out)|exact HB.out)) hb);clear BK513 HB;have HO520:=n0_;have BK513:=n1_;have HB:=n2_;clear n0_ n1_ n2_;clear hb ho29)|((with_reducible refine gate_builtin (b:=.append) (xs:=#[.tmp 14,.tmp 15]) rfl ?_);at_builtin;refine Kd.R_append_rows k39 (w0:=w) w.heap.size rfl (.tmp 14) (.tmp 15) 23 39 (.agg #[(.int .i64 0),(.int .i64 0),(.int .i64 0)]) 24 rfl Try.underlying23 info39 rfl (by decide) (by omega) v519 y518 l0 _ _ _ (fun _=>True) (fun _=>False) rfl rfl ?aO ?aR (fun _ _ h=>h) (fun _ h=>h.elim) ?aF ?aB ?aS ?aL ?_;(case aR=>repeat (first|exact (Kd.C_below HR0.out HB.out)|(with_reducible refine Kd.C_alloc ?_ _)|(with_reducible refine Kd.C_drewN ?_ _)|(with_reducible refine Kd.C_drew ?_)));(case aB=>exact (by repeat (first|(with_reducible first|exact HB.out|apply below_alloc|apply pw_below_drewN|apply below_drew1|refine below_set ?_ GE513.out)|exact HB.out)));(case aF=>exact (fun _ _=>trivial));(case aO=>exact (by (with_reducible repeat (first|apply Kd.R_alloc|apply Kd.R_drewN|apply Kd.R_drew));exact HO520.out));(case aS=>exact (below_size (by repeat (first|(with_reducible first|exact HB.out|apply below_alloc|apply pw_below_drewN|apply below_drew1|refine below_set ?_ GE513.out)|exact HB.out))));(case aL=>have:=LMc10.out;omega);intro v522 w30 ho hb hg hat;rw [← Ny521.out] at ho;have n0_:=Aside0.mk (blk_grown (g:=gb513) (o:=.cells #[.bool a1_0,.bool a1_1,.int .i64 a1_2,.int .i64 a1_3,.int .i64 a1_4,.slice A1_5 l1_5.length c1_5] 34 (0,0)) (by (with_reducible repeat (first|refine blk_drewN ?_ _|refine blk_drew ?_|refine blk_alloc ?_ _));exact BK513.out) hg (Kd.R_ne HO520.out BK513.out (by decide)));have n1_:=Aside0.mk (hb);have n2_:=Aside0.mk (ho);clear BK513 HB HO520;have BK513:=n0_;have HB:=n1_;have HO523:=n2_;clear n0_ n1_ n2_;clear ho hb hg hat;have hcz31_0:w30.cell? ⟨gb513,0,none⟩=some (.bool a1_0):=(blk_cell BK513.out 0).trans rfl;have hcz31_1:w30.cell? ⟨gb513,1,none⟩=some (.bool a1_1):=(blk_cell BK513.out 1).trans rfl;have hcz31_2:w30.cell? ⟨gb513,2,none⟩=some (.int .i64 a1_2):=(blk_cell BK513.out 2).trans rfl;have hcz31_3:w30.cell? ⟨gb513,3,none⟩=some (.int .i64 a1_3):=(blk_cell BK513.out 3).trans rfl;have hcz31_4:w30.cell? ⟨gb513,4,none⟩=some (.int .i64 a1_4):=(blk_cell BK513.out 4).trans rfl;have hcz31_5:w30.cell? ⟨gb513,5,none⟩=some (.slice A1_5 l1_5.length c1_5):=(blk_cell BK513.out 5).trans rfl;have hfz31_0:=blk_frozen BK513.out 0;have hfz31_1:=blk_frozen BK513.out 1;have hfz31_2:=blk_frozen BK513.out 2;have hfz31_3:=blk_frozen BK513.out 3;have hfz31_4:=blk_frozen BK513.out 4;have hfz31_5:=blk_frozen BK513.out 5)|((with_reducible refine gate_callee (f:=63) rfl ?_);refine goesL_ (some 31) rfl rfl Try.func63 (by kernel_rfl) rfl #[.slice A0 l0.length c0,.agg #[.int .i64 a1_2,.int .i64 a1_3,.int .i64 (wrap64 (a1_4+(l1_5.length:Int)))]] rfl (by (try simp only [map_toArray,map_cons,map_nil]);first|done|rfl|(simp only [length_drop,length_take];rfl)) ?_;(with_reducible refine (spec_l21Put.calls k _ _ l0 a1_2 a1_3 (wrap64 (a1_4+(l1_5.length:Int))) t524 _ ?side1 ?side2 A12.out).mono ?_);(case side1=>repeat (first|exact (Kd.C_below HR0.out HB.out)|(with_reducible refine Kd.C_alloc ?_ _)|(with_reducible refine Kd.C_drewN ?_ _)|(with_reducible refine Kd.C_drew ?_)));(case side2=>exact HC0.out);rintro e w32 ⟨v525,rfl,ho0,hb⟩;refine ⟨_,rfl,?_⟩;have n0_:=Aside0.mk (Kd.R_elder' (by (with_reducible repeat (first|apply Kd.R_alloc|apply Kd.R_drewN|apply Kd.R_drew));exact HO523.out) (Kd.R_base ho0) hb);have n1_:=Aside0.mk (Kd.R_lower (Kd.R_new' ho0 (Kd.R_lt (by (with_reducible repeat (first|apply Kd.R_alloc|apply Kd.R_drewN|apply Kd.R_drew));exact HO523.out))) (below_size (by repeat (first|(with_reducible first|exact HB.out|apply below_alloc|apply pw_below_drewN|apply below_drew1|refine below_set ?_ GE513.out)|exact HB.out))));have n2_:=Aside0.mk (blk_below (g:=gb513) (o:=.cells #[.bool a1_0,.bool a1_1,.int .i64 a1_2,.int .i64 a1_3,.int .i64 a1_4,.slice A1_5 l1_5.length c1_5] 34 (0,0)) (by (with_reducible repeat (first|refine blk_drewN ?_ _|refine blk_drew ?_|refine blk_alloc ?_ _));exact BK513.out) hb);have n3_:=Aside0.mk (below_step (by repeat (first|(with_reducible first|exact HB.out|apply below_alloc|apply pw_below_drewN|apply below_drew1|refine below_set ?_ GE513.out)|exact HB.out)) hb);clear HO523 BK513 HB;have HO523:=n0_;have HO526:=n1_;have BK513:=n2_;have HB:=n3_;clear n0_ n1_ n2_ n3_;(try clear hb);(try clear hb2);(try clear hk);(try clear hi);(try clear ho0);obtain ⟨Ao33,co33,eo33⟩:=Kd.R_slice HO526.out;subst eo33)|((with_reducible refine gate_callee (f:=20) rfl ?_);refine goesL_ (some 33) rfl rfl Try.func20 (by kernel_rfl) rfl #[.slice Ao33 t524.length co33] rfl (by (try simp only [map_toArray,map_cons,map_nil]);first|done|rfl|(simp only [length_drop,length_take];rfl)) ?_;(with_reducible refine (spec_ProducersValid.calls k _ _ t524 false _ ?side1 ?side2 A13.out).mono ?_);(case side1=>repeat (first|exact (Kd.R_reads' HO526.out).2.2|(with_reducible refine Kd.C_alloc ?_ _)|(with_reducible refine Kd.C_drewN ?_ _)|(with_reducible refine Kd.C_drew ?_)));(case side2=>exact (Kd.R_reads' HO526.out).2.1);rintro e w34 ⟨rfl,hb⟩;refine ⟨_,rfl,?_⟩;have n0_:=Aside0.mk (Kd.R_below (by (with_reducible repeat (first|apply Kd.R_alloc|apply Kd.R_drewN|apply Kd.R_drew));exact HO523.out) hb);have n1_:=Aside0.mk (Kd.R_below (by (with_reducible repeat (first|apply Kd.R_alloc|apply Kd.R_drewN|apply Kd.R_drew));exact HO526.out) hb);have n2_:=Aside0.mk (blk_below (g:=gb513) (o:=.cells #[.bool a1_0,.bool a1_1,.int .i64 a1_2,.int .i64 a1_3,.int .i64 a1_4,.slice A1_5 l1_5.length c1_5] 34 (0,0)) (by (with_reducible repeat (first|refine blk_drewN ?_ _|refine blk_drew ?_|refine blk_alloc ?_ _));exact BK513.out) hb);have n3_:=Aside0.mk (below_step (by repeat (first|(with_reducible first|exact HB.out|apply below_alloc|apply pw_below_drewN|apply below_drew1|refine below_set ?_ GE513.out)|exact HB.out)) hb);clear HO523 HO526 BK513 HB;have HO523:=n0_;have HO526:=n1_;have BK513:=n2_;have HB:=n3_;clear n0_ n1_ n2_ n3_;(try clear hb);(try clear hb2);(try clear hk);(try clear hi))|((with_reducible refine gate_dst (N:=35) rfl ?_);refine Kd.R_lit k39 _ 39 ?hg (N:=35) ?hd (xs:=([]:List (S39))) (inner:=[]) (ok:=fun _=>True) (okp:=fun _=>True) ?hr ?hp (fun _ hk=>hk) trivial (Below.refl _ _) (Nat.le_refl _) (by simp) ?_;(case hd=>rfl);(case hg=>rfl);(case hr=>first|(go_simp;done)|(go_simp;rfl));(case hp=>exact (Reps.none _ _));intro v529 w35 ho36 hb hg_ hnew_;clear hg_ hnew_;(first|rw [← Ny528.out] at ho36|(simp only [Int.reduceToNat] at ho36;rw [← Ny528.out] at ho36));have n0_:=Aside0.mk (Kd.R_elder' (by (with_reducible repeat (first|apply Kd.R_alloc|apply Kd.R_drewN|apply Kd.R_drew));exact HO523.out) (Kd.R_base ho36) hb);have n1_:=Aside0.mk (Kd.R_elder' (by (with_reducible repeat (first|apply Kd.R_alloc|apply Kd.R_drewN|apply Kd.R_drew));exact HO526.out) (Kd.R_base ho36) hb);have n2_:=Aside0.mk (Kd.R_lower (Kd.R_new' (Kd.R_new' ho36 (Kd.R_lt (by (with_reducible repeat (first|apply Kd.R_alloc|apply Kd.R_drewN|apply Kd.R_drew));exact HO523.out))) (Kd.R_lt (by (with_reducible repeat (first|apply Kd.R_alloc|apply Kd.R_drewN|apply Kd.R_drew));exact HO526.out))) (below_size (by repeat (first|(with_reducible first|exact HB.out|apply below_alloc|apply pw_below_drewN|apply below_drew1|refine below_set ?_ GE513.out)|exact HB.out))));have n3_:=Aside0.mk (blk_below (g:=gb513) (o:=.cells #[.bool a1_0,.bool a1_1,.int .i64 a1_2,.int .i64 a1_3,.int .i64 a1_4,.slice A1_5 l1_5.length c1_5] 34 (0,0)) (by (with_reducible repeat (first|refine blk_drewN ?_ _|refine blk_drew ?_|refine blk_alloc ?_ _));exact BK513.out) hb);have n4_:=Aside0.mk (below_step (by repeat (first|(with_reducible first|exact HB.out|apply below_alloc|apply pw_below_drewN|apply below_drew1|refine below_set ?_ GE513.out)|exact HB.out)) hb);clear HO523 HO526 BK513 HB;have HO523:=n0_;have HO526:=n1_;have HO530:=n2_;have BK513:=n3_;have HB:=n4_;clear n0_ n1_ n2_ n3_ n4_;clear hb ho36))
     go_ret2
     exact ⟨_,by first|rfl|(simp [errW_none,errW_some] <;> rfl)|(simp [*,errW_none,errW_some] <;> rfl),by (with_reducible repeat (first|apply Kd.R_alloc|apply Kd.R_drewN|apply Kd.R_drew));exact Kd.R_mono HO530.out (fun _ hk=>trivial),by repeat (first|(with_reducible first|exact HB.out|apply below_alloc|apply pw_below_drewN|apply below_drew1|refine below_set ?_ GE513.out)|exact HB.out)⟩
   ·rw [if_neg c11] at H
    have c11b0:(t514 == 0)=false:=beq_eq_false_iff_ne.mpr c11
    have c11b1:(t514 != 0)=true:=bne_iff_ne.mpr c11
    replace H:=Option.bind_eq_some_iff.mp H
    obtain ⟨t531,A370,H⟩:=H
    replace H:(if t531=true then (some (y521,t514)) else (some ((([]:List (S39))),5)))=some (r1,r2):=H
    have A37:=Aside0.mk A370
    clear A370
    by_cases c38:t531=true
    ·subst c38
     have H1:(some (y521,t514))=some (r1,r2):=by rw [if_pos rfl] at H;exact H
     clear H
     have H:=H1
     clear H1
     simp only [Option.some.injEq,Prod.mk.injEq] at H
     obtain ⟨rfl,rfl⟩:=H
     go_enter Try.func30,Try.ntmps30
     go_wp2_with (first|((with_reducible refine gate_dst (N:=3) rfl ?_);refine box_event ?hg (N:=3) ?hd (cs:=#[.bool a1_0,.bool a1_1,.int .i64 a1_2,.int .i64 a1_3,.int .i64 a1_4,.slice A1_5 l1_5.length c1_5]) (t:=34) ?hr ?_;(case hd=>rfl);(case hg=>rfl);(case hr=>first|(go_simp;done)|(go_simp;rfl));intro gb513 hg w39 hbox hb;have n0_:=Aside0.mk (below_step (by repeat (first|(with_reducible first|exact HB.out|apply below_alloc|apply pw_below_drewN|apply below_drew1)|exact HB.out)) hb);have n1_:=Aside0.mk (hbox);have n2_:=Aside0.mk ((by rw [hg];exact (below_size (by repeat (first|(with_reducible first|exact HB.out|apply below_alloc|apply pw_below_drewN|apply below_drew1)|exact HB.out))):w.heap.size ≤ gb513));have n3_:=Aside0.mk ((by rw [hg];exact (below_size (by repeat (first|(with_reducible first|exact HB.out|apply below_alloc|apply pw_below_drewN|apply below_drew1)|exact HB.out))):w.heap.size ≤ gb513));clear HB;have HB:=n0_;have BK513:=n1_;have GW513:=n2_;have GE513:=n3_;clear n0_ n1_ n2_ n3_;clear hb hbox hg;have hcz40_0:w39.cell? ⟨gb513,0,none⟩=some (.bool a1_0):=(blk_cell BK513.out 0).trans rfl;have hcz40_1:w39.cell? ⟨gb513,1,none⟩=some (.bool a1_1):=(blk_cell BK513.out 1).trans rfl;have hcz40_2:w39.cell? ⟨gb513,2,none⟩=some (.int .i64 a1_2):=(blk_cell BK513.out 2).trans rfl;have hcz40_3:w39.cell? ⟨gb513,3,none⟩=some (.int .i64 a1_3):=(blk_cell BK513.out 3).trans rfl;have hcz40_4:w39.cell? ⟨gb513,4,none⟩=some (.int .i64 a1_4):=(blk_cell BK513.out 4).trans rfl;have hcz40_5:w39.cell? ⟨gb513,5,none⟩=some (.slice A1_5 l1_5.length c1_5):=(blk_cell BK513.out 5).trans rfl;have hfz40_0:=blk_frozen BK513.out 0;have hfz40_1:=blk_frozen BK513.out 1;have hfz40_2:=blk_frozen BK513.out 2;have hfz40_3:=blk_frozen BK513.out 3;have hfz40_4:=blk_frozen BK513.out 4;have hfz40_5:=blk_frozen BK513.out 5)|((with_reducible refine gate_callee (f:=26) rfl ?_);refine goesL_ (some 10) rfl rfl Try.func26 (by kernel_rfl) rfl #[.slice A0 l0.length c0,.agg #[.bool a1_0,.bool a1_1,.int .i64 a1_2,.int .i64 a1_3,.int .i64 a1_4,.slice A1_5 l1_5.length c1_5]] rfl (by (try simp only [map_toArray,map_cons,map_nil]);first|done|rfl|(simp only [length_drop,length_take];rfl)) ?_;(with_reducible refine (spec_ProducersCheck.calls k _ _ l0 a1_0 a1_1 a1_2 a1_3 a1_4 _ _ l1_5 t514 _ ?side1 ?side2 ?side3 ?side4 A3.out).mono ?_);(case side1=>repeat (first|exact (Kd.C_below HR0.out HB.out)|(with_reducible refine Kd.C_alloc ?_ _)|(with_reducible refine Kd.C_drewN ?_ _)|(with_reducible refine Kd.C_drew ?_)));(case side2=>exact HC0.out);(case side3=>repeat (first|exact (Kd.C_below HR1_5.out HB.out)|(with_reducible refine Kd.C_alloc ?_ _)|(with_reducible refine Kd.C_drewN ?_ _)|(with_reducible refine Kd.C_drew ?_)));(case side4=>exact HC1_5.out);rintro e w41 ⟨rfl,hb⟩;refine ⟨_,rfl,?_⟩;have n0_:=Aside0.mk (blk_below (g:=gb513) (o:=.cells #[.bool a1_0,.bool a1_1,.int .i64 a1_2,.int .i64 a1_3,.int .i64 a1_4,.slice A1_5 l1_5.length c1_5] 34 (0,0)) (by (with_reducible repeat (first|refine blk_drewN ?_ _|refine blk_drew ?_|refine blk_alloc ?_ _));exact BK513.out) hb);have n1_:=Aside0.mk (below_step (by repeat (first|(with_reducible first|exact HB.out|apply below_alloc|apply pw_below_drewN|apply below_drew1|refine below_set ?_ GE513.out)|exact HB.out)) hb);clear BK513 HB;have BK513:=n0_;have HB:=n1_;clear n0_ n1_;(try clear hb);(try clear hb2);(try clear hk);(try clear hi))|((with_reducible refine gate_dst (N:=14) rfl ?_);refine Kd.R_lit k39 _ 39 ?hg (N:=14) ?hd (xs:=([]:List (S39))) (inner:=[]) (ok:=fun _=>True) (okp:=fun _=>True) ?hr ?hp (fun _ hk=>hk) trivial (Below.refl _ _) (Nat.le_refl _) (by simp) ?_;(case hd=>rfl);(case hg=>rfl);(case hr=>first|(go_simp;done)|(go_simp;rfl));(case hp=>exact (Reps.none _ _));intro v519 w42 ho43 hb hg_ hnew_;clear hg_ hnew_;(first|rw [← Ny518.out] at ho43|(simp only [Int.reduceToNat] at ho43;rw [← Ny518.out] at ho43));have n0_:=Aside0.mk (Kd.R_lower ho43 (below_size (by repeat (first|(with_reducible first|exact HB.out|apply below_alloc|apply pw_below_drewN|apply below_drew1|refine below_set ?_ GE513.out)|exact HB.out))));have n1_:=Aside0.mk (blk_below (g:=gb513) (o:=.cells #[.bool a1_0,.bool a1_1,.int .i64 a1_2,.int .i64 a1_3,.int .i64 a1_4,.slice A1_5 l1_5.length c1_5] 34 (0,0)) (by (with_reducible repeat (first|refine blk_drewN ?_ _|refine blk_drew ?_|refine blk_alloc ?_ _));exact BK513.out) hb);have n2_:=Aside0.mk (below_step (by repeat (first|(with_reducible first|exact HB.out|apply below_alloc|apply pw_below_drewN|apply below_drew1|refine below_set ?_ GE513.out)|exact HB.out)) hb);clear BK513 HB;have HO520:=n0_;have BK513:=n1_;have HB:=n2_;clear n0_ n1_ n2_;clear hb ho43)|((with_reducible refine gate_builtin (b:=.append) (xs:=#[.tmp 14,.tmp 15]) rfl ?_);at_builtin;refine Kd.R_append_rows k39 (w0:=w) w.heap.size rfl (.tmp 14) (.tmp 15) 23 39 (.agg #[(.int .i64 0),(.int .i64 0),(.int .i64 0)]) 24 rfl Try.underlying23 info39 rfl (by decide) (by omega) v519 y518 l0 _ _ _ (fun _=>True) (fun _=>False) rfl rfl ?aO ?aR (fun _ _ h=>h) (fun _ h=>h.elim) ?aF ?aB ?aS ?aL ?_;(case aR=>repeat (first|exact (Kd.C_below HR0.out HB.out)|(with_reducible refine Kd.C_alloc ?_ _)|(with_reducible refine Kd.C_drewN ?_ _)|(with_reducible refine Kd.C_drew ?_)));(case aB=>exact (by repeat (first|(with_reducible first|exact HB.out|apply below_alloc|apply pw_below_drewN|apply below_drew1|refine below_set ?_ GE513.out)|exact HB.out)));(case aF=>exact (fun _ _=>trivial));(case aO=>exact (by (with_reducible repeat (first|apply Kd.R_alloc|apply Kd.R_drewN|apply Kd.R_drew));exact HO520.out));(case aS=>exact (below_size (by repeat (first|(with_reducible first|exact HB.out|apply below_alloc|apply pw_below_drewN|apply below_drew1|refine below_set ?_ GE513.out)|exact HB.out))));(case aL=>have:=LMc10.out;omega);intro v522 w44 ho hb hg hat;rw [← Ny521.out] at ho;have n0_:=Aside0.mk (blk_grown (g:=gb513) (o:=.cells #[.bool a1_0,.bool a1_1,.int .i64 a1_2,.int .i64 a1_3,.int .i64 a1_4,.slice A1_5 l1_5.length c1_5] 34 (0,0)) (by (with_reducible repeat (first|refine blk_drewN ?_ _|refine blk_drew ?_|refine blk_alloc ?_ _));exact BK513.out) hg (Kd.R_ne HO520.out BK513.out (by decide)));have n1_:=Aside0.mk (hb);have n2_:=Aside0.mk (ho);clear BK513 HB HO520;have BK513:=n0_;have HB:=n1_;have HO523:=n2_;clear n0_ n1_ n2_;clear ho hb hg hat;obtain ⟨Ao45,co45,eo45⟩:=Kd.R_slice HO523.out;subst eo45)|((with_reducible refine gate_callee (f:=20) rfl ?_);refine goesL_ (some 33) rfl rfl Try.func20 (by kernel_rfl) rfl #[.slice Ao45 y521.length co45] rfl (by (try simp only [map_toArray,map_cons,map_nil]);first|done|rfl|(simp only [length_drop,length_take];rfl)) ?_;(with_reducible refine (spec_ProducersValid.calls k _ _ y521 true _ ?side1 ?side2 A37.out).mono ?_);(case side1=>repeat (first|exact (Kd.R_reads' HO523.out).2.2|(with_reducible refine Kd.C_alloc ?_ _)|(with_reducible refine Kd.C_drewN ?_ _)|(with_reducible refine Kd.C_drew ?_)));(case side2=>exact (Kd.R_reads' HO523.out).2.1);rintro e w46 ⟨rfl,hb⟩;refine ⟨_,rfl,?_⟩;have n0_:=Aside0.mk (Kd.R_below (by (with_reducible repeat (first|apply Kd.R_alloc|apply Kd.R_drewN|apply Kd.R_drew));exact HO523.out) hb);have n1_:=Aside0.mk (blk_below (g:=gb513) (o:=.cells #[.bool a1_0,.bool a1_1,.int .i64 a1_2,.int .i64 a1_3,.int .i64 a1_4,.slice A1_5 l1_5.length c1_5] 34 (0,0)) (by (with_reducible repeat (first|refine blk_drewN ?_ _|refine blk_drew ?_|refine blk_alloc ?_ _));exact BK513.out) hb);have n2_:=Aside0.mk (below_step (by repeat (first|(with_reducible first|exact HB.out|apply below_alloc|apply pw_below_drewN|apply below_drew1|refine below_set ?_ GE513.out)|exact HB.out)) hb);clear HO523 BK513 HB;have HO523:=n0_;have BK513:=n1_;have HB:=n2_;clear n0_ n1_ n2_;(try clear hb);(try clear hb2);(try clear hk);(try clear hi)))
     go_ret2
     exact ⟨_,by first|rfl|(simp [errW_none,errW_some] <;> rfl)|(simp [*,errW_none,errW_some] <;> rfl),by (with_reducible repeat (first|apply Kd.R_alloc|apply Kd.R_drewN|apply Kd.R_drew));exact HO523.out,by repeat (first|(with_reducible first|exact HB.out|apply below_alloc|apply pw_below_drewN|apply below_drew1|refine below_set ?_ GE513.out)|exact HB.out)⟩
    ·replace c38:=Bool.eq_false_iff.mpr c38
     subst c38
     have H1:(some ((([]:List (S39))),5))=some (r1,r2):=by rw [if_neg (show ¬ (false=true) by decide)] at H;exact H
     clear H
     have H:=H1
     clear H1
     obtain ⟨y532,hy532⟩:∃ y_:List (S39),y_=(([]:List (S39))):=⟨_,rfl⟩
     replace H:(some (y532,5))=some (r1,r2):=by first|(rw [hy532];with_reducible exact H)|(have H2_:=(Option.bind_some _ _).symm.trans H;rw [hy532];with_reducible exact H2_)|(have H2_:=(Option.bind_some _ _).symm.trans H;with_reducible exact H2_)|with_reducible exact H|(rw [hy532];exact H)|exact H
     have Ny532:=Aside0.mk hy532
     clear hy532
     simp only [Option.some.injEq,Prod.mk.injEq] at H
     obtain ⟨rfl,rfl⟩:=H
     go_enter Try.func30,Try.ntmps30
     go_wp2_with (first|((with_reducible refine gate_dst (N:=3) rfl ?_);refine box_event ?hg (N:=3) ?hd (cs:=#[.bool a1_0,.bool a1_1,.int .i64 a1_2,.int .i64 a1_3,.int .i64 a1_4,.slice A1_5 l1_5.length c1_5]) (t:=34) ?hr ?_;(case hd=>rfl);(case hg=>rfl);(case hr=>first|(go_simp;done)|(go_simp;rfl));intro gb513 hg w47 hbox hb;have n0_:=Aside0.mk (below_step (by repeat (first|(with_reducible first|exact HB.out|apply below_alloc|apply pw_below_drewN|apply below_drew1)|exact HB.out)) hb);have n1_:=Aside0.mk (hbox);have n2_:=Aside0.mk ((by rw [hg];exact (below_size (by repeat (first|(with_reducible first|exact HB.out|apply below_alloc|apply pw_below_drewN|apply below_drew1)|exact HB.out))):w.heap.size ≤ gb513));have n3_:=Aside0.mk ((by rw [hg];exact (below_size (by repeat (first|(with_reducible first|exact HB.out|apply below_alloc|apply pw_below_drewN|apply below_drew1)|exact HB.out))):w.heap.size ≤ gb513));clear HB;have HB:=n0_;have BK513:=n1_;have GW513:=n2_;have GE513:=n3_;clear n0_ n1_ n2_ n3_;clear hb hbox hg;have hcz48_0:w47.cell? ⟨gb513,0,none⟩=some (.bool a1_0):=(blk_cell BK513.out 0).trans rfl;have hcz48_1:w47.cell? ⟨gb513,1,none⟩=some (.bool a1_1):=(blk_cell BK513.out 1).trans rfl;have hcz48_2:w47.cell? ⟨gb513,2,none⟩=some (.int .i64 a1_2):=(blk_cell BK513.out 2).trans rfl;have hcz48_3:w47.cell? ⟨gb513,3,none⟩=some (.int .i64 a1_3):=(blk_cell BK513.out 3).trans rfl;have hcz48_4:w47.cell? ⟨gb513,4,none⟩=some (.int .i64 a1_4):=(blk_cell BK513.out 4).trans rfl;have hcz48_5:w47.cell? ⟨gb513,5,none⟩=some (.slice A1_5 l1_5.length c1_5):=(blk_cell BK513.out 5).trans rfl;have hfz48_0:=blk_frozen BK513.out 0;have hfz48_1:=blk_frozen BK513.out 1;have hfz48_2:=blk_frozen BK513.out 2;have hfz48_3:=blk_frozen BK513.out 3;have hfz48_4:=blk_frozen BK513.out 4;have hfz48_5:=blk_frozen BK513.out 5)|((with_reducible refine gate_callee (f:=26) rfl ?_);refine goesL_ (some 10) rfl rfl Try.func26 (by kernel_rfl) rfl #[.slice A0 l0.length c0,.agg #[.bool a1_0,.bool a1_1,.int .i64 a1_2,.int .i64 a1_3,.int .i64 a1_4,.slice A1_5 l1_5.length c1_5]] rfl (by (try simp only [map_toArray,map_cons,map_nil]);first|done|rfl|(simp only [length_drop,length_take];rfl)) ?_;(with_reducible refine (spec_ProducersCheck.calls k _ _ l0 a1_0 a1_1 a1_2 a1_3 a1_4 _ _ l1_5 t514 _ ?side1 ?side2 ?side3 ?side4 A3.out).mono ?_);(case side1=>repeat (first|exact (Kd.C_below HR0.out HB.out)|(with_reducible refine Kd.C_alloc ?_ _)|(with_reducible refine Kd.C_drewN ?_ _)|(with_reducible refine Kd.C_drew ?_)));(case side2=>exact HC0.out);(case side3=>repeat (first|exact (Kd.C_below HR1_5.out HB.out)|(with_reducible refine Kd.C_alloc ?_ _)|(with_reducible refine Kd.C_drewN ?_ _)|(with_reducible refine Kd.C_drew ?_)));(case side4=>exact HC1_5.out);rintro e w49 ⟨rfl,hb⟩;refine ⟨_,rfl,?_⟩;have n0_:=Aside0.mk (blk_below (g:=gb513) (o:=.cells #[.bool a1_0,.bool a1_1,.int .i64 a1_2,.int .i64 a1_3,.int .i64 a1_4,.slice A1_5 l1_5.length c1_5] 34 (0,0)) (by (with_reducible repeat (first|refine blk_drewN ?_ _|refine blk_drew ?_|refine blk_alloc ?_ _));exact BK513.out) hb);have n1_:=Aside0.mk (below_step (by repeat (first|(with_reducible first|exact HB.out|apply below_alloc|apply pw_below_drewN|apply below_drew1|refine below_set ?_ GE513.out)|exact HB.out)) hb);clear BK513 HB;have BK513:=n0_;have HB:=n1_;clear n0_ n1_;(try clear hb);(try clear hb2);(try clear hk);(try clear hi))|((with_reducible refine gate_dst (N:=14) rfl ?_);refine Kd.R_lit k39 _ 39 ?hg (N:=14) ?hd (xs:=([]:List (S39))) (inner:=[]) (ok:=fun _=>True) (okp:=fun _=>True) ?hr ?hp (fun _ hk=>hk) trivial (Below.refl _ _) (Nat.le_refl _) (by simp) ?_;(case hd=>rfl);(case hg=>rfl);(case hr=>first|(go_simp;done)|(go_simp;rfl));(case hp=>exact (Reps.none _ _));intro v519 w50 ho51 hb hg_ hnew_;clear hg_ hnew_;(first|rw [← Ny518.out] at ho51|(simp only [Int.reduceToNat] at ho51;rw [← Ny518.out] at ho51));have n0_:=Aside0.mk (Kd.R_lower ho51 (below_size (by repeat (first|(with_reducible first|exact HB.out|apply below_alloc|apply pw_below_drewN|apply below_drew1|refine below_set ?_ GE513.out)|exact HB.out))));have n1_:=Aside0.mk (blk_below (g:=gb513) (o:=.cells #[.bool a1_0,.bool a1_1,.int .i64 a1_2,.int .i64 a1_3,.int .i64 a1_4,.slice A1_5 l1_5.length c1_5] 34 (0,0)) (by (with_reducible repeat (first|refine blk_drewN ?_ _|refine blk_drew ?_|refine blk_alloc ?_ _));exact BK513.out) hb);have n2_:=Aside0.mk (below_step (by repeat (first|(with_reducible first|exact HB.out|apply below_alloc|apply pw_below_drewN|apply below_drew1|refine below_set ?_ GE513.out)|exact HB.out)) hb);clear BK513 HB;have HO520:=n0_;have BK513:=n1_;have HB:=n2_;clear n0_ n1_ n2_;clear hb ho51)|((with_reducible refine gate_builtin (b:=.append) (xs:=#[.tmp 14,.tmp 15]) rfl ?_);at_builtin;refine Kd.R_append_rows k39 (w0:=w) w.heap.size rfl (.tmp 14) (.tmp 15) 23 39 (.agg #[(.int .i64 0),(.int .i64 0),(.int .i64 0)]) 24 rfl Try.underlying23 info39 rfl (by decide) (by omega) v519 y518 l0 _ _ _ (fun _=>True) (fun _=>False) rfl rfl ?aO ?aR (fun _ _ h=>h) (fun _ h=>h.elim) ?aF ?aB ?aS ?aL ?_;(case aR=>repeat (first|exact (Kd.C_below HR0.out HB.out)|(with_reducible refine Kd.C_alloc ?_ _)|(with_reducible refine Kd.C_drewN ?_ _)|(with_reducible refine Kd.C_drew ?_)));(case aB=>exact (by repeat (first|(with_reducible first|exact HB.out|apply below_alloc|apply pw_below_drewN|apply below_drew1|refine below_set ?_ GE513.out)|exact HB.out)));(case aF=>exact (fun _ _=>trivial));(case aO=>exact (by (with_reducible repeat (first|apply Kd.R_alloc|apply Kd.R_drewN|apply Kd.R_drew));exact HO520.out));(case aS=>exact (below_size (by repeat (first|(with_reducible first|exact HB.out|apply below_alloc|apply pw_below_drewN|apply below_drew1|refine below_set ?_ GE513.out)|exact HB.out))));(case aL=>have:=LMc10.out;omega);intro v522 w52 ho hb hg hat;rw [← Ny521.out] at ho;have n0_:=Aside0.mk (blk_grown (g:=gb513) (o:=.cells #[.bool a1_0,.bool a1_1,.int .i64 a1_2,.int .i64 a1_3,.int .i64 a1_4,.slice A1_5 l1_5.length c1_5] 34 (0,0)) (by (with_reducible repeat (first|refine blk_drewN ?_ _|refine blk_drew ?_|refine blk_alloc ?_ _));exact BK513.out) hg (Kd.R_ne HO520.out BK513.out (by decide)));have n1_:=Aside0.mk (hb);have n2_:=Aside0.mk (ho);clear BK513 HB HO520;have BK513:=n0_;have HB:=n1_;have HO523:=n2_;clear n0_ n1_ n2_;clear ho hb hg hat;obtain ⟨Ao53,co53,eo53⟩:=Kd.R_slice HO523.out;subst eo53)|((with_reducible refine gate_callee (f:=20) rfl ?_);refine goesL_ (some 33) rfl rfl Try.func20 (by kernel_rfl) rfl #[.slice Ao53 y521.length co53] rfl (by (try simp only [map_toArray,map_cons,map_nil]);first|done|rfl|(simp only [length_drop,length_take];rfl)) ?_;(with_reducible refine (spec_ProducersValid.calls k _ _ y521 false _ ?side1 ?side2 A37.out).mono ?_);(case side1=>repeat (first|exact (Kd.R_reads' HO523.out).2.2|(with_reducible refine Kd.C_alloc ?_ _)|(with_reducible refine Kd.C_drewN ?_ _)|(with_reducible refine Kd.C_drew ?_)));(case side2=>exact (Kd.R_reads' HO523.out).2.1);rintro e w54 ⟨rfl,hb⟩;refine ⟨_,rfl,?_⟩;have n0_:=Aside0.mk (Kd.R_below (by (with_reducible repeat (first|apply Kd.R_alloc|apply Kd.R_drewN|apply Kd.R_drew));exact HO523.out) hb);have n1_:=Aside0.mk (blk_below (g:=gb513) (o:=.cells #[.bool a1_0,.bool a1_1,.int .i64 a1_2,.int .i64 a1_3,.int .i64 a1_4,.slice A1_5 l1_5.length c1_5] 34 (0,0)) (by (with_reducible repeat (first|refine blk_drewN ?_ _|refine blk_drew ?_|refine blk_alloc ?_ _));exact BK513.out) hb);have n2_:=Aside0.mk (below_step (by repeat (first|(with_reducible first|exact HB.out|apply below_alloc|apply pw_below_drewN|apply below_drew1|refine below_set ?_ GE513.out)|exact HB.out)) hb);clear HO523 BK513 HB;have HO523:=n0_;have BK513:=n1_;have HB:=n2_;clear n0_ n1_ n2_;(try clear hb);(try clear hb2);(try clear hk);(try clear hi))|((with_reducible refine gate_dst (N:=35) rfl ?_);refine Kd.R_lit k39 _ 39 ?hg (N:=35) ?hd (xs:=([]:List (S39))) (inner:=[]) (ok:=fun _=>True) (okp:=fun _=>True) ?hr ?hp (fun _ hk=>hk) trivial (Below.refl _ _) (Nat.le_refl _) (by simp) ?_;(case hd=>rfl);(case hg=>rfl);(case hr=>first|(go_simp;done)|(go_simp;rfl));(case hp=>exact (Reps.none _ _));intro v533 w55 ho56 hb hg_ hnew_;clear hg_ hnew_;(first|rw [← Ny532.out] at ho56|(simp only [Int.reduceToNat] at ho56;rw [← Ny532.out] at ho56));have n0_:=Aside0.mk (Kd.R_elder' (by (with_reducible repeat (first|apply Kd.R_alloc|apply Kd.R_drewN|apply Kd.R_drew));exact HO523.out) (Kd.R_base ho56) hb);have n1_:=Aside0.mk (Kd.R_lower (Kd.R_new' ho56 (Kd.R_lt (by (with_reducible repeat (first|apply Kd.R_alloc|apply Kd.R_drewN|apply Kd.R_drew));exact HO523.out))) (below_size (by repeat (first|(with_reducible first|exact HB.out|apply below_alloc|apply pw_below_drewN|apply below_drew1|refine below_set ?_ GE513.out)|exact HB.out))));have n2_:=Aside0.mk (blk_below (g:=gb513) (o:=.cells #[.bool a1_0,.bool a1_1,.int .i64 a1_2,.int .i64 a1_3,.int .i64 a1_4,.slice A1_5 l1_5.length c1_5] 34 (0,0)) (by (with_reducible repeat (first|refine blk_drewN ?_ _|refine blk_drew ?_|refine blk_alloc ?_ _));exact BK513.out) hb);have n3_:=Aside0.mk (below_step (by repeat (first|(with_reducible first|exact HB.out|apply below_alloc|apply pw_below_drewN|apply below_drew1|refine below_set ?_ GE513.out)|exact HB.out)) hb);clear HO523 BK513 HB;have HO523:=n0_;have HO534:=n1_;have BK513:=n2_;have HB:=n3_;clear n0_ n1_ n2_ n3_;clear hb ho56))
     go_ret2
     exact ⟨_,by first|rfl|(simp [errW_none,errW_some] <;> rfl)|(simp [*,errW_none,errW_some] <;> rfl),by (with_reducible repeat (first|apply Kd.R_alloc|apply Kd.R_drewN|apply Kd.R_drew));exact Kd.R_mono HO534.out (fun _ hk=>trivial),by repeat (first|(with_reducible first|exact HB.out|apply below_alloc|apply pw_below_drewN|apply below_drew1|refine below_set ?_ GE513.out)|exact HB.out)⟩
  ·rw [if_neg c10] at H
   exact absurd H (by simp)
end Go.Proofs.Ytkhmopmfbocokaa.T
namespace Go.Proofs.Ytkhmopmfbocokaa.T
open Go.RowKit Go.Proofs.YtkhmopmfbocokaaW.PrintWords Go.Proofs.YtkhmopmfbocokaaW.PrintLast Go.Proofs.YtkhmopmfbocokaaW.PrintMore
attribute [local go_sem] max2_int max_two
set_option linter.unusedVariables false
set_option linter.unusedSimpArgs false
def spec_ProducersRun.l0:Nat→List (S34)→List (S39)→List Int→Int→Option ((List (S39)) × List Int)
 | 0,_,_,_,_=>none
 | k+1,x0,x4,x5,x6=>if x6 < (x0.length:Int) then (if 0 ≤ x6 then ((spec_ProducersPut.f k x4 ((rd_T34 x0 x6).f0) ((rd_T34 x0 x6).f1) ((rd_T34 x0 x6).f2) ((rd_T34 x0 x6).f3) ((rd_T34 x0 x6).f4) ((rd_T34 x0 x6).f5)).bind fun bt804=>(if bt804.2=5 then (if x5.length < 17592186044416 then (spec_ProducersRun.l0 k x0 x4 (x5 ++ [bt804.2]) (wrap64 (x6+1))) else (none)) else (if x5.length < 17592186044416 then (spec_ProducersRun.l0 k x0 bt804.1 (x5 ++ [bt804.2]) (wrap64 (x6+1))) else (none)))) else (none)) else (some (x4,x5))
def spec_ProducersRun.f (k:Nat) (l0:List (S34)):Option ((List (S39)) × List Int):=spec_ProducersRun.l0 k l0 (([]:List (S39))) (([]:List Int)) 0
set_option maxHeartbeats 8000000 in
set_option maxRecDepth 100000 in
theorem spec_ProducersRun.calls (k:Nat) (A0:Option Addr) (c0:Nat) (l0:List (S34)) (r1:List (S39)) (r2:List Int) (w:World) (hr0:Kd.C k34 w A0 l0.length l0) (hc0:l0.length ≤ c0) (h:spec_ProducersRun.f k l0=some (r1,r2)) :
  Calls Try.prog 37 #[.slice A0 l0.length c0] w fun e w'=>∃ v0_ v1_:Value,e = .returned (.tuple #[v0_,v1_])∧Kd.R k39 39 w' w.heap.size (fun _=>True) v0_ r1∧Kd.R (Kd.int .i64) 3 w' w.heap.size (fun _=>True) v1_ r2∧Below w.heap.size w w':=by
 have hu34:=Try.underlying34
 have HR0:=Aside0.mk hr0
 have HC0:=Aside0.mk hc0
 clear hr0 hc0
 have HB:=Aside0.mk (Below.refl w.heap.size w)
 have H:(spec_ProducersRun.l0 k l0 (([]:List (S39))) (([]:List Int)) 0)=some (r1,r2):=h
 clear h
 obtain ⟨y797,hy797⟩:∃ y_:List (S39),y_=(([]:List (S39))):=⟨_,rfl⟩
 replace H:(spec_ProducersRun.l0 k l0 y797 (([]:List Int)) 0)=some (r1,r2):=by first|(rw [hy797];with_reducible exact H)|(have H2_:=(Option.bind_some _ _).symm.trans H;rw [hy797];with_reducible exact H2_)|(have H2_:=(Option.bind_some _ _).symm.trans H;with_reducible exact H2_)|with_reducible exact H|(rw [hy797];exact H)|exact H
 have Ny797:=Aside0.mk hy797
 clear hy797
 obtain ⟨y800,hy800⟩:∃ y_:List Int,y_=(([]:List Int)):=⟨_,rfl⟩
 replace H:(spec_ProducersRun.l0 k l0 y797 y800 0)=some (r1,r2):=by first|(rw [hy800];with_reducible exact H)|(have H2_:=(Option.bind_some _ _).symm.trans H;rw [hy800];with_reducible exact H2_)|(have H2_:=(Option.bind_some _ _).symm.trans H;with_reducible exact H2_)|with_reducible exact H|(rw [hy800];exact H)|exact H
 have Ny800:=Aside0.mk hy800
 clear hy800
 have H':=Aside0.mk H
 clear H
 go_enter Try.func37,Try.ntmps37
 go_wp2_with (first|((with_reducible refine gate_dst (N:=9) rfl ?_);refine Kd.R_lit k39 _ 39 ?hg (N:=9) ?hd (xs:=([]:List (S39))) (inner:=[]) (ok:=fun _=>True) (okp:=fun _=>True) ?hr ?hp (fun _ hk=>hk) trivial (Below.refl _ _) (Nat.le_refl _) (by simp) ?_;(case hd=>rfl);(case hg=>rfl);(case hr=>first|(go_simp;done)|(go_simp;rfl));(case hp=>exact (Reps.none _ _));intro v798 w2 ho3 hb hg_ hnew_;clear hg_ hnew_;(first|rw [← Ny797.out] at ho3|(simp only [Int.reduceToNat] at ho3;rw [← Ny797.out] at ho3));have n0_:=Aside0.mk (Kd.R_lower ho3 (below_size (by repeat (first|(with_reducible first|exact HB.out|apply below_alloc|apply pw_below_drewN|apply below_drew1)|exact HB.out))));have n1_:=Aside0.mk (below_step (by repeat (first|(with_reducible first|exact HB.out|apply below_alloc|apply pw_below_drewN|apply below_drew1)|exact HB.out)) hb);clear HB;have HO799:=n0_;have HB:=n1_;clear n0_ n1_;clear hb ho3)|((with_reducible refine gate_dst (N:=10) rfl ?_);refine Kd.R_lit (Kd.int .i64) _ 3 ?hg (N:=10) ?hd (xs:=([]:List Int)) (inner:=[]) (ok:=fun _=>True) (okp:=fun _=>True) ?hr ?hp (fun _ hk=>hk) trivial (Below.refl _ _) (Nat.le_refl _) (by simp) ?_;(case hd=>rfl);(case hg=>rfl);(case hr=>first|(go_simp;done)|(go_simp;rfl));(case hp=>exact (Reps.none _ _));intro v801 w4 ho5 hb hg_ hnew_;clear hg_ hnew_;(first|rw [← Ny800.out] at ho5|(simp only [Int.reduceToNat] at ho5;rw [← Ny800.out] at ho5));have n0_:=Aside0.mk (Kd.R_below (by (with_reducible repeat (first|apply Kd.R_alloc|apply Kd.R_drewN|apply Kd.R_drew));exact HO799.out) hb);have n1_:=Aside0.mk (Kd.R_lower ho5 (below_size (by repeat (first|(with_reducible first|exact HB.out|apply below_alloc|apply pw_below_drewN|apply below_drew1)|exact HB.out))));have n2_:=Aside0.mk (below_step (by repeat (first|(with_reducible first|exact HB.out|apply below_alloc|apply pw_below_drewN|apply below_drew1)|exact HB.out)) hb);clear HO799 HB;have HO799:=n0_;have HO802:=n1_;have HB:=n2_;clear n0_ n1_ n2_;clear hb ho5))
 go_loopg [4,5,6] k (fun kq v4 v5 v6 w'=>∃ (x4_1:List (S39)) (x5_1:List Int) (x6_1:Int),v6 = .int .i64 x6_1∧Aside0 (spec_ProducersRun.l0 kq l0 x4_1 x5_1 x6_1=some (r1,r2))∧Aside0 (kq ≤ k)∧Aside0 (Kd.R k39 39 w' w.heap.size (fun _=>True) v4 x4_1)∧Aside0 (Kd.R (Kd.int .i64) 3 w' w.heap.size (fun _=>True) v5 x5_1)∧Aside0 (Below w.heap.size w w'))
 case atStart=>exact ⟨(y797),(y800),(0),(by first|rfl|(simp;done)|(simp [*];done)),H',⟨Nat.le_refl _⟩,⟨by (with_reducible repeat (first|apply Kd.R_alloc|apply Kd.R_drewN|apply Kd.R_drew));exact HO799.out⟩,⟨by (with_reducible repeat (first|apply Kd.R_alloc|apply Kd.R_drewN|apply Kd.R_drew));exact HO802.out⟩,⟨by repeat (first|(with_reducible first|exact HB.out|apply below_alloc|apply pw_below_drewN|apply below_drew1)|exact HB.out)⟩⟩
 case round=>
  clear H'
  try clear p2
  try clear c3
  obtain ⟨x4_1,x5_1,x6_1,rfl,HA,HK1,HO_4,HO_5,HB⟩:=hrel
  cases gk with
  | zero=>exact absurd HA.out (by simp [spec_ProducersRun.l0])
  | succ k1=>
   have H:=HA.out
   clear HA
   simp only [spec_ProducersRun.l0] at H
   by_cases c6:x6_1 < (l0.length:Int)
   ·rw [if_pos c6] at H
    have c6b0:decide (x6_1 < (l0.length:Int))=true:=decide_eq_true c6
    clear c6
    by_cases c7 : 0 ≤ x6_1
    ·rw [if_pos c7] at H
     have c7b0:decide (0 ≤ x6_1)=true:=decide_eq_true c7
     clear c7
     replace H:=Option.bind_eq_some_iff.mp H
     obtain ⟨⟨t804,t807⟩,A80,H⟩:=H
     replace H:(if t807=5 then (if x5_1.length < 17592186044416 then (spec_ProducersRun.l0 k1 l0 x4_1 (x5_1 ++ [t807]) (wrap64 (x6_1+1))) else (none)) else (if x5_1.length < 17592186044416 then (spec_ProducersRun.l0 k1 l0 t804 (x5_1 ++ [t807]) (wrap64 (x6_1+1))) else (none)))=some (r1,r2):=H
     have A8:=Aside0.mk A80
     clear A80
     by_cases c9:t807=5
     ·rw [if_pos c9] at H
      have c9b0:(t807 == 5)=true:=beq_iff_eq.mpr c9
      have c9b1:(t807 != 5)=false:=bne_eq_false_iff_eq.mpr c9
      clear c9
      by_cases c10:x5_1.length < 17592186044416
      ·rw [if_pos c10] at H
       have LMc10:=Aside0.mk c10
       clear c10
       obtain ⟨y808,hy808⟩:∃ y_:List Int,y_=(x5_1 ++ [t807]):=⟨_,rfl⟩
       replace H:(spec_ProducersRun.l0 k1 l0 x4_1 y808 (wrap64 (x6_1+1)))=some (r1,r2):=by first|(rw [hy808];with_reducible exact H)|(have H2_:=(Option.bind_some _ _).symm.trans H;rw [hy808];with_reducible exact H2_)|(have H2_:=(Option.bind_some _ _).symm.trans H;with_reducible exact H2_)|with_reducible exact H|(rw [hy808];exact H)|exact H
       have Ny808:=Aside0.mk hy808
       clear hy808
       have H':=Aside0.mk H
       clear H
       have p803 : 0 ≤ (x6_1:Int):=of_decide_eq_true (by first|(with_reducible assumption)|assumption)
       have q803:x6_1 < (l0.length:Int):=of_decide_eq_true (by first|(with_reducible assumption)|assumption)
       obtain ⟨ad803,A803_5,c803_5,e803,hx803_0,hx803_1,hx803_2,hx803_3,hx803_4,hx803_5,hl803_5,hi803_5⟩:=at_T34 HR0.out x6_1 p803 q803
       cases e803
       replace hx803_0:=(HB.out.cell (World.block_lt_of_cell? w _ hx803_0)).trans hx803_0
       replace hx803_1:=(HB.out.cell (World.block_lt_of_cell? w _ hx803_1)).trans hx803_1
       replace hx803_2:=(HB.out.cell (World.block_lt_of_cell? w _ hx803_2)).trans hx803_2
       replace hx803_3:=(HB.out.cell (World.block_lt_of_cell? w _ hx803_3)).trans hx803_3
       replace hx803_4:=(HB.out.cell (World.block_lt_of_cell? w _ hx803_4)).trans hx803_4
       replace hx803_5:=(HB.out.cell (World.block_lt_of_cell? w _ hx803_5)).trans hx803_5
       have HR803_5:=Aside0.mk hi803_5
       have HC803_5:=Aside0.mk hl803_5
       clear hi803_5 hl803_5
       replace p803:=eq_true p803
       replace q803:=eq_true q803
       obtain ⟨Ao11,co11,eo11⟩:=Kd.R_slice HO_4.out
       subst eo11
       go_wp2_with (first|((with_reducible refine gate_callee (f:=30) rfl ?_);refine goesL_ (some 23) rfl rfl Try.func30 (by kernel_rfl) rfl #[.slice Ao11 x4_1.length co11,.agg #[.bool ((rd_T34 l0 x6_1).f0),.bool ((rd_T34 l0 x6_1).f1),.int .i64 ((rd_T34 l0 x6_1).f2),.int .i64 ((rd_T34 l0 x6_1).f3),.int .i64 ((rd_T34 l0 x6_1).f4),.slice A803_5 ((rd_T34 l0 x6_1).f5).length c803_5]] rfl (by (try simp only [map_toArray,map_cons,map_nil]);first|done|rfl|(simp only [length_drop,length_take];rfl)) ?_;(with_reducible refine (spec_ProducersPut.calls k1 _ _ x4_1 ((rd_T34 l0 x6_1).f0) ((rd_T34 l0 x6_1).f1) ((rd_T34 l0 x6_1).f2) ((rd_T34 l0 x6_1).f3) ((rd_T34 l0 x6_1).f4) _ _ ((rd_T34 l0 x6_1).f5) t804 t807 _ ?side1 ?side2 ?side3 ?side4 A8.out).mono ?_);(case side1=>repeat (first|exact (Kd.R_reads' HO_4.out).2.2|(with_reducible refine Kd.C_alloc ?_ _)|(with_reducible refine Kd.C_drewN ?_ _)|(with_reducible refine Kd.C_drew ?_)));(case side2=>exact (Kd.R_reads' HO_4.out).2.1);(case side3=>repeat (first|exact (Kd.C_below HR803_5.out HB.out)|(with_reducible refine Kd.C_alloc ?_ _)|(with_reducible refine Kd.C_drewN ?_ _)|(with_reducible refine Kd.C_drew ?_)));(case side4=>exact HC803_5.out);rintro e w12 ⟨v805,rfl,ho0,hb⟩;refine ⟨_,rfl,?_⟩;have n0_:=Aside0.mk (Kd.R_elder' (by (with_reducible repeat (first|apply Kd.R_alloc|apply Kd.R_drewN|apply Kd.R_drew));exact HO_4.out) (Kd.R_base ho0) hb);have n1_:=Aside0.mk (Kd.R_below (by (with_reducible repeat (first|apply Kd.R_alloc|apply Kd.R_drewN|apply Kd.R_drew));exact HO_5.out) hb);have n2_:=Aside0.mk (Kd.R_lower (Kd.R_new' ho0 (Kd.R_lt (by (with_reducible repeat (first|apply Kd.R_alloc|apply Kd.R_drewN|apply Kd.R_drew));exact HO_4.out))) (below_size (by repeat (first|(with_reducible first|exact HB.out|apply below_alloc|apply pw_below_drewN|apply below_drew1)|exact HB.out))));have n3_:=Aside0.mk (below_step (by repeat (first|(with_reducible first|exact HB.out|apply below_alloc|apply pw_below_drewN|apply below_drew1)|exact HB.out)) hb);clear HO_4 HO_5 HB;have HO_4:=n0_;have HO_5:=n1_;have HO806:=n2_;have HB:=n3_;clear n0_ n1_ n2_ n3_;(try clear hb);(try clear hb2);(try clear hk);(try clear hi);(try clear ho0))|((with_reducible refine gate_builtin (b:=.append) (xs:=#[.tmp 29,.tmp 31]) rfl ?_);at_builtin;refine Kd.R_append (Kd.int .i64) (w0:=w) w.heap.size rfl (.tmp 29) (.tmp 31) 53 3 (.int .i64 0) 8 rfl Try.underlying53 info3 rfl (by decide) (by omega) u5 x5_1 t807 [.int .i64 t807] (fun _=>True) (fun _=>False) rfl rfl ?aP (fun _ hk=>hk.elim) ?aF ?aO ?aB ?aS ?aL ?_;(case aP=>exact rfl);(case aB=>exact (by repeat (first|(with_reducible first|exact HB.out|apply below_alloc|apply pw_below_drewN|apply below_drew1)|exact HB.out)));(case aF=>exact (fun _ _=>trivial));(case aO=>exact (by (with_reducible repeat (first|apply Kd.R_alloc|apply Kd.R_drewN|apply Kd.R_drew));exact HO_5.out));(case aS=>exact (below_size (by repeat (first|(with_reducible first|exact HB.out|apply below_alloc|apply pw_below_drewN|apply below_drew1)|exact HB.out))));(case aL=>have:=LMc10.out;omega);intro v809 w13 ho hb hg hat;rw [← Ny808.out] at ho;have n0_:=Aside0.mk (Kd.R_over' (by (with_reducible repeat (first|apply Kd.R_alloc|apply Kd.R_drewN|apply Kd.R_drew));exact HO_4.out) (Kd.R_typed (by (with_reducible repeat (first|apply Kd.R_alloc|apply Kd.R_drewN|apply Kd.R_drew));exact HO_5.out)) (by decide) hg);have n1_:=Aside0.mk (Kd.R_over' (by (with_reducible repeat (first|apply Kd.R_alloc|apply Kd.R_drewN|apply Kd.R_drew));exact HO806.out) (Kd.R_typed (by (with_reducible repeat (first|apply Kd.R_alloc|apply Kd.R_drewN|apply Kd.R_drew));exact HO_5.out)) (by decide) hg);have n2_:=Aside0.mk (hb);have n3_:=Aside0.mk (ho);clear HO_4 HO806 HB HO_5;have HO_4:=n0_;have HO806:=n1_;have HB:=n2_;have HO810:=n3_;clear n0_ n1_ n2_ n3_;clear ho hb hg hat))
       go_roundg k1
       case measure=>have:=HK1.out;omega
       case rel=>exact ⟨(x4_1),(y808),(wrap64 (x6_1+1)),(by first|rfl|(simp;done)|(simp [*];done)),H',⟨by have:=HK1.out;omega⟩,⟨by (with_reducible repeat (first|apply Kd.R_alloc|apply Kd.R_drewN|apply Kd.R_drew));exact Kd.R_mono HO_4.out (fun _ hk=>trivial)⟩,⟨by (with_reducible repeat (first|apply Kd.R_alloc|apply Kd.R_drewN|apply Kd.R_drew));exact HO810.out⟩,⟨by repeat (first|(with_reducible first|exact HB.out|apply below_alloc|apply pw_below_drewN|apply below_drew1)|exact HB.out)⟩⟩
      ·rw [if_neg c10] at H
       exact absurd H (by simp)
     ·rw [if_neg c9] at H
      have c9b0:(t807 == 5)=false:=beq_eq_false_iff_ne.mpr c9
      have c9b1:(t807 != 5)=true:=bne_iff_ne.mpr c9
      by_cases c14:x5_1.length < 17592186044416
      ·rw [if_pos c14] at H
       have LMc14:=Aside0.mk c14
       clear c14
       obtain ⟨y811,hy811⟩:∃ y_:List Int,y_=(x5_1 ++ [t807]):=⟨_,rfl⟩
       replace H:(spec_ProducersRun.l0 k1 l0 t804 y811 (wrap64 (x6_1+1)))=some (r1,r2):=by first|(rw [hy811];with_reducible exact H)|(have H2_:=(Option.bind_some _ _).symm.trans H;rw [hy811];with_reducible exact H2_)|(have H2_:=(Option.bind_some _ _).symm.trans H;with_reducible exact H2_)|with_reducible exact H|(rw [hy811];exact H)|exact H
       have Ny811:=Aside0.mk hy811
       clear hy811
       have H':=Aside0.mk H
       clear H
       have p803 : 0 ≤ (x6_1:Int):=of_decide_eq_true (by first|(with_reducible assumption)|assumption)
       have q803:x6_1 < (l0.length:Int):=of_decide_eq_true (by first|(with_reducible assumption)|assumption)
       obtain ⟨ad803,A803_5,c803_5,e803,hx803_0,hx803_1,hx803_2,hx803_3,hx803_4,hx803_5,hl803_5,hi803_5⟩:=at_T34 HR0.out x6_1 p803 q803
       cases e803
       replace hx803_0:=(HB.out.cell (World.block_lt_of_cell? w _ hx803_0)).trans hx803_0
       replace hx803_1:=(HB.out.cell (World.block_lt_of_cell? w _ hx803_1)).trans hx803_1
       replace hx803_2:=(HB.out.cell (World.block_lt_of_cell? w _ hx803_2)).trans hx803_2
       replace hx803_3:=(HB.out.cell (World.block_lt_of_cell? w _ hx803_3)).trans hx803_3
       replace hx803_4:=(HB.out.cell (World.block_lt_of_cell? w _ hx803_4)).trans hx803_4
       replace hx803_5:=(HB.out.cell (World.block_lt_of_cell? w _ hx803_5)).trans hx803_5
       have HR803_5:=Aside0.mk hi803_5
       have HC803_5:=Aside0.mk hl803_5
       clear hi803_5 hl803_5
       replace p803:=eq_true p803
       replace q803:=eq_true q803
       obtain ⟨Ao15,co15,eo15⟩:=Kd.R_slice HO_4.out
       subst eo15
       go_wp2_with (first|((with_reducible refine gate_callee (f:=30) rfl ?_);refine goesL_ (some 23) rfl rfl Try.func30 (by kernel_rfl) rfl #[.slice Ao15 x4_1.length co15,.agg #[.bool ((rd_T34 l0 x6_1).f0),.bool ((rd_T34 l0 x6_1).f1),.int .i64 ((rd_T34 l0 x6_1).f2),.int .i64 ((rd_T34 l0 x6_1).f3),.int .i64 ((rd_T34 l0 x6_1).f4),.slice A803_5 ((rd_T34 l0 x6_1).f5).length c803_5]] rfl (by (try simp only [map_toArray,map_cons,map_nil]);first|done|rfl|(simp only [length_drop,length_take];rfl)) ?_;(with_reducible refine (spec_ProducersPut.calls k1 _ _ x4_1 ((rd_T34 l0 x6_1).f0) ((rd_T34 l0 x6_1).f1) ((rd_T34 l0 x6_1).f2) ((rd_T34 l0 x6_1).f3) ((rd_T34 l0 x6_1).f4) _ _ ((rd_T34 l0 x6_1).f5) t804 t807 _ ?side1 ?side2 ?side3 ?side4 A8.out).mono ?_);(case side1=>repeat (first|exact (Kd.R_reads' HO_4.out).2.2|(with_reducible refine Kd.C_alloc ?_ _)|(with_reducible refine Kd.C_drewN ?_ _)|(with_reducible refine Kd.C_drew ?_)));(case side2=>exact (Kd.R_reads' HO_4.out).2.1);(case side3=>repeat (first|exact (Kd.C_below HR803_5.out HB.out)|(with_reducible refine Kd.C_alloc ?_ _)|(with_reducible refine Kd.C_drewN ?_ _)|(with_reducible refine Kd.C_drew ?_)));(case side4=>exact HC803_5.out);rintro e w16 ⟨v805,rfl,ho0,hb⟩;refine ⟨_,rfl,?_⟩;have n0_:=Aside0.mk (Kd.R_elder' (by (with_reducible repeat (first|apply Kd.R_alloc|apply Kd.R_drewN|apply Kd.R_drew));exact HO_4.out) (Kd.R_base ho0) hb);have n1_:=Aside0.mk (Kd.R_below (by (with_reducible repeat (first|apply Kd.R_alloc|apply Kd.R_drewN|apply Kd.R_drew));exact HO_5.out) hb);have n2_:=Aside0.mk (Kd.R_lower (Kd.R_new' ho0 (Kd.R_lt (by (with_reducible repeat (first|apply Kd.R_alloc|apply Kd.R_drewN|apply Kd.R_drew));exact HO_4.out))) (below_size (by repeat (first|(with_reducible first|exact HB.out|apply below_alloc|apply pw_below_drewN|apply below_drew1)|exact HB.out))));have n3_:=Aside0.mk (below_step (by repeat (first|(with_reducible first|exact HB.out|apply below_alloc|apply pw_below_drewN|apply below_drew1)|exact HB.out)) hb);clear HO_4 HO_5 HB;have HO_4:=n0_;have HO_5:=n1_;have HO806:=n2_;have HB:=n3_;clear n0_ n1_ n2_ n3_;(try clear hb);(try clear hb2);(try clear hk);(try clear hi);(try clear ho0))|((with_reducible refine gate_builtin (b:=.append) (xs:=#[.tmp 29,.tmp 31]) rfl ?_);at_builtin;refine Kd.R_append (Kd.int .i64) (w0:=w) w.heap.size rfl (.tmp 29) (.tmp 31) 53 3 (.int .i64 0) 8 rfl Try.underlying53 info3 rfl (by decide) (by omega) u5 x5_1 t807 [.int .i64 t807] (fun _=>True) (fun _=>False) rfl rfl ?aP (fun _ hk=>hk.elim) ?aF ?aO ?aB ?aS ?aL ?_;(case aP=>exact rfl);(case aB=>exact (by repeat (first|(with_reducible first|exact HB.out|apply below_alloc|apply pw_below_drewN|apply below_drew1)|exact HB.out)));(case aF=>exact (fun _ _=>trivial));(case aO=>exact (by (with_reducible repeat (first|apply Kd.R_alloc|apply Kd.R_drewN|apply Kd.R_drew));exact HO_5.out));(case aS=>exact (below_size (by repeat (first|(with_reducible first|exact HB.out|apply below_alloc|apply pw_below_drewN|apply below_drew1)|exact HB.out))));(case aL=>have:=LMc14.out;omega);intro v812 w17 ho hb hg hat;rw [← Ny811.out] at ho;have n0_:=Aside0.mk (Kd.R_over' (by (with_reducible repeat (first|apply Kd.R_alloc|apply Kd.R_drewN|apply Kd.R_drew));exact HO_4.out) (Kd.R_typed (by (with_reducible repeat (first|apply Kd.R_alloc|apply Kd.R_drewN|apply Kd.R_drew));exact HO_5.out)) (by decide) hg);have n1_:=Aside0.mk (Kd.R_over' (by (with_reducible repeat (first|apply Kd.R_alloc|apply Kd.R_drewN|apply Kd.R_drew));exact HO806.out) (Kd.R_typed (by (with_reducible repeat (first|apply Kd.R_alloc|apply Kd.R_drewN|apply Kd.R_drew));exact HO_5.out)) (by decide) hg);have n2_:=Aside0.mk (hb);have n3_:=Aside0.mk (ho);clear HO_4 HO806 HB HO_5;have HO_4:=n0_;have HO806:=n1_;have HB:=n2_;have HO813:=n3_;clear n0_ n1_ n2_ n3_;clear ho hb hg hat))
       go_roundg k1
       case measure=>have:=HK1.out;omega
       case rel=>exact ⟨(t804),(y811),(wrap64 (x6_1+1)),(by first|rfl|(simp;done)|(simp [*];done)),H',⟨by have:=HK1.out;omega⟩,⟨by (with_reducible repeat (first|apply Kd.R_alloc|apply Kd.R_drewN|apply Kd.R_drew));exact Kd.R_mono HO806.out (fun _ hk=>trivial)⟩,⟨by (with_reducible repeat (first|apply Kd.R_alloc|apply Kd.R_drewN|apply Kd.R_drew));exact HO813.out⟩,⟨by repeat (first|(with_reducible first|exact HB.out|apply below_alloc|apply pw_below_drewN|apply below_drew1)|exact HB.out)⟩⟩
      ·rw [if_neg c14] at H
       exact absurd H (by simp)
    ·rw [if_neg c7] at H
     exact absurd H (by simp)
   ·rw [if_neg c6] at H
    have c6b0:decide (x6_1 < (l0.length:Int))=false:=decide_eq_false c6
    clear c6
    simp only [Option.some.injEq,Prod.mk.injEq] at H
    obtain ⟨rfl,rfl⟩:=H
    go_wp2
    go_ret2
    exact ⟨_,_,by first|rfl|(simp [errW_none,errW_some] <;> rfl)|(simp [*,errW_none,errW_some] <;> rfl),by (with_reducible repeat (first|apply Kd.R_alloc|apply Kd.R_drewN|apply Kd.R_drew));exact HO_4.out,by (with_reducible repeat (first|apply Kd.R_alloc|apply Kd.R_drewN|apply Kd.R_drew));exact HO_5.out,by repeat (first|(with_reducible first|exact HB.out|apply below_alloc|apply pw_below_drewN|apply below_drew1)|exact HB.out)⟩
end Go.Proofs.Ytkhmopmfbocokaa.T
namespace Go.Proofs.Ytkhmopmfbocokaa.T
open Go.RowKit Go.Proofs.YtkhmopmfbocokaaW.PrintWords Go.Proofs.YtkhmopmfbocokaaW.PrintLast Go.Proofs.YtkhmopmfbocokaaW.PrintMore
attribute [local go_sem] max2_int max_two
set_option linter.unusedVariables false
set_option linter.unusedSimpArgs false
def laws_sameInts.l0:Nat→List Int→List Int→Int→Option (Bool)
 | 0,_,_,_=>none
 | k+1,x0,x1,x5=>if x5 < (x0.length:Int) then (if 0 ≤ x5 then (if x5 < (x1.length:Int) then (if (rd x0 x5)=(rd x1 x5) then (laws_sameInts.l0 k x0 x1 (wrap64 (x5+1))) else (some false)) else (none)) else (none)) else (some true)
def laws_sameInts.f (k:Nat) (l0:List Int) (l1:List Int):Option (Bool):=if (l0.length:Int)=(l1.length:Int) then (laws_sameInts.l0 k l0 l1 0) else (some false)
set_option maxHeartbeats 8000000 in
set_option maxRecDepth 100000 in
theorem laws_sameInts.calls (k:Nat) (A0:Option Addr) (c0:Nat) (l0:List Int) (A1:Option Addr) (c1:Nat) (l1:List Int) (r:Bool) (w:World) (hr0:Kd.C (Kd.int .i64) w A0 l0.length l0) (hc0:l0.length ≤ c0) (hr1:Kd.C (Kd.int .i64) w A1 l1.length l1) (hc1:l1.length ≤ c1) (h:laws_sameInts.f k l0 l1=some r) :
  Calls Try.prog 38 #[.slice A0 l0.length c0,.slice A1 l1.length c1] w fun e w'=>e = .returned (.bool r)∧Drawn0 w w':=by
 have HR0:=Aside0.mk hr0
 have HC0:=Aside0.mk hc0
 clear hr0 hc0
 have HR1:=Aside0.mk hr1
 have HC1:=Aside0.mk hc1
 clear hr1 hc1
 have H:(if (l0.length:Int)=(l1.length:Int) then (laws_sameInts.l0 k l0 l1 0) else (some false))=some r:=h
 clear h
 by_cases c3:(l0.length:Int)=(l1.length:Int)
 ·rw [if_pos c3] at H
  have c3b0:((l0.length:Int) == (l1.length:Int))=true:=beq_iff_eq.mpr c3
  have c3b1:((l0.length:Int) != (l1.length:Int))=false:=bne_eq_false_iff_eq.mpr c3
  have c3b2:(l0.length == l1.length)=true:=by first|simpa using c3|(simp at c3 ⊢;omega)
  clear c3
  have H':=Aside0.mk H
  clear H
  go_enter Try.func38,Try.ntmps38
  go_wp2
  repeat (go_quiet (fail);try go_wp2)
  go_loopg [5] k (fun kq v5 w'=>∃ (x5_1:Int),v5 = .int .i64 x5_1∧Aside0 (laws_sameInts.l0 kq l0 l1 x5_1=some r)∧Aside0 (kq ≤ k)∧Drawn0 w w')
  case atStart=>exact ⟨(0),(by first|rfl|(simp;done)|(simp [*];done)),H',⟨Nat.le_refl _⟩,by repeat (first|exact Drawn0.refl _|apply Drawn0.step)⟩
  case round=>
   clear H'
   try clear c1
   try clear p2
   try clear c3
   try clear c3b0
   try clear c3b1
   try clear c3b2
   obtain ⟨x5_1,rfl,HA,HK1,⟨m1,rfl⟩⟩:=hrel
   cases gk with
   | zero=>exact absurd HA.out (by simp [laws_sameInts.l0])
   | succ k1=>
    have H:=HA.out
    clear HA
    simp only [laws_sameInts.l0] at H
    by_cases c4:x5_1 < (l0.length:Int)
    ·rw [if_pos c4] at H
     have c4b0:decide (x5_1 < (l0.length:Int))=true:=decide_eq_true c4
     clear c4
     by_cases c5 : 0 ≤ x5_1
     ·rw [if_pos c5] at H
      have c5b0:decide (0 ≤ x5_1)=true:=decide_eq_true c5
      clear c5
      by_cases c6:x5_1 < (l1.length:Int)
      ·rw [if_pos c6] at H
       have c6b0:decide (x5_1 < (l1.length:Int))=true:=decide_eq_true c6
       clear c6
       by_cases c7:(rd l0 x5_1)=(rd l1 x5_1)
       ·rw [if_pos c7] at H
        have c7b0:((rd l0 x5_1) == (rd l1 x5_1))=true:=beq_iff_eq.mpr c7
        have c7b1:((rd l0 x5_1) != (rd l1 x5_1))=false:=bne_eq_false_iff_eq.mpr c7
        clear c7
        have H':=Aside0.mk H
        clear H
        have p814 : 0 ≤ (x5_1:Int):=of_decide_eq_true (by first|(with_reducible assumption)|assumption)
        have q814:x5_1 < (l0.length:Int):=of_decide_eq_true (by first|(with_reducible assumption)|assumption)
        obtain ⟨ad814,e814,hx814_0⟩:=Kd.at_int HR0.out x5_1 p814 q814
        cases e814
        replace p814:=eq_true p814
        replace q814:=eq_true q814
        have p815 : 0 ≤ (x5_1:Int):=of_decide_eq_true (by first|(with_reducible assumption)|assumption)
        have q815:x5_1 < (l1.length:Int):=of_decide_eq_true (by first|(with_reducible assumption)|assumption)
        obtain ⟨ad815,e815,hx815_0⟩:=Kd.at_int HR1.out x5_1 p815 q815
        cases e815
        replace p815:=eq_true p815
        replace q815:=eq_true q815
        go_wp2
        repeat (go_quiet (fail);try go_wp2)
        go_roundg k1
        case measure=>have:=HK1.out;omega
        case rel=>exact ⟨(wrap64 (x5_1+1)),(by first|rfl|(simp;done)|(simp [*];done)),H',⟨by have:=HK1.out;omega⟩,by repeat (first|exact Drawn0.refl _|apply Drawn0.step)⟩
       ·rw [if_neg c7] at H
        have c7b0:((rd l0 x5_1) == (rd l1 x5_1))=false:=beq_eq_false_iff_ne.mpr c7
        have c7b1:((rd l0 x5_1) != (rd l1 x5_1))=true:=bne_iff_ne.mpr c7
        obtain rfl:=Option.some.inj H
        have p814 : 0 ≤ (x5_1:Int):=of_decide_eq_true (by first|(with_reducible assumption)|assumption)
        have q814:x5_1 < (l0.length:Int):=of_decide_eq_true (by first|(with_reducible assumption)|assumption)
        obtain ⟨ad814,e814,hx814_0⟩:=Kd.at_int HR0.out x5_1 p814 q814
        cases e814
        replace p814:=eq_true p814
        replace q814:=eq_true q814
        have p815 : 0 ≤ (x5_1:Int):=of_decide_eq_true (by first|(with_reducible assumption)|assumption)
        have q815:x5_1 < (l1.length:Int):=of_decide_eq_true (by first|(with_reducible assumption)|assumption)
        obtain ⟨ad815,e815,hx815_0⟩:=Kd.at_int HR1.out x5_1 p815 q815
        cases e815
        replace p815:=eq_true p815
        replace q815:=eq_true q815
        go_wp2
        repeat (go_quiet (fail);try go_wp2)
        go_ret
        exact ⟨by first|rfl|(simp;done)|(simp [*];done),by repeat (first|exact Drawn0.refl _|apply Drawn0.step)⟩
      ·rw [if_neg c6] at H
       exact absurd H (by simp)
     ·rw [if_neg c5] at H
      exact absurd H (by simp)
    ·rw [if_neg c4] at H
     have c4b0:decide (x5_1 < (l0.length:Int))=false:=decide_eq_false c4
     clear c4
     obtain rfl:=Option.some.inj H
     go_wp2
     repeat (go_quiet (fail);try go_wp2)
     go_ret
     exact ⟨by first|rfl|(simp;done)|(simp [*];done),by repeat (first|exact Drawn0.refl _|apply Drawn0.step)⟩
 ·rw [if_neg c3] at H
  have c3b0:((l0.length:Int) == (l1.length:Int))=false:=beq_eq_false_iff_ne.mpr c3
  have c3b1:((l0.length:Int) != (l1.length:Int))=true:=bne_iff_ne.mpr c3
  have c3b2:(l0.length == l1.length)=false:=by first|simpa using c3|(simp at c3 ⊢;omega)
  obtain rfl:=Option.some.inj H
  go_enter Try.func38,Try.ntmps38
  go_wp2
  repeat (go_quiet (fail);try go_wp2)
  go_ret
  exact ⟨by first|rfl|(simp;done)|(simp [*];done),by repeat (first|exact Drawn0.refl _|apply Drawn0.step)⟩
end Go.Proofs.Ytkhmopmfbocokaa.T
namespace Go.Proofs.Ytkhmopmfbocokaa.T
open Go.RowKit Go.Proofs.YtkhmopmfbocokaaW.PrintWords Go.Proofs.YtkhmopmfbocokaaW.PrintLast Go.Proofs.YtkhmopmfbocokaaW.PrintMore
attribute [local go_sem] max2_int max_two
set_option linter.unusedVariables false
set_option linter.unusedSimpArgs false
mutual
def laws_FnRunProducers.j0:Nat→List (S34)→List (S39)→List Int→List (S39)→List Int→Bool→Option (Bool)
 | 0,_,_,_,_,_,_=>none
 | k+1,x3,x4,x5,x6,x7,x36=>if x36=true then ((laws_sameInts.f k x5 x7).bind fun t833=>(if t833=true then ((laws_sameProducers.f k x4 x6).bind fun t834=>(some t834)) else (some false))) else (laws_FnRunProducers.l0 k x3 x4 x5 (([]:List (S39))) 0)
def laws_FnRunProducers.l0:Nat→List (S34)→List (S39)→List Int→List (S39)→Int→Option (Bool)
 | 0,_,_,_,_,_=>none
 | k+1,x3,x4,x5,x8,x9=>if x9 < (x3.length:Int) then (if 0 ≤ x9 then ((impl_ProducersPut.f k x8 ((rd_T34 x3 x9).f0) ((rd_T34 x3 x9).f1) ((rd_T34 x3 x9).f2) ((rd_T34 x3 x9).f3) ((rd_T34 x3 x9).f4) ((rd_T34 x3 x9).f5)).bind fun bt841=>(if x9 < (x5.length:Int) then (if bt841.2=(rd x5 x9) then (if bt841.2=5 then (laws_FnRunProducers.l0 k x3 x4 x5 x8 (wrap64 (x9+1))) else (laws_FnRunProducers.l0 k x3 x4 x5 bt841.1 (wrap64 (x9+1)))) else (some false)) else (none))) else (none)) else (if (x5.length:Int)=(x3.length:Int) then ((laws_sameProducers.f k x8 x4).bind fun t838=>(if t838=true then ((impl_ProducersValid.f k x4).bind fun t839=>(some t839)) else (some false))) else (some false))
end
def laws_FnRunProducers.f (k:Nat) (l0:List Int):Option (Bool):=if (l0.length:Int) > 1048576 then (some true) else ((spec_DrawProducersRun.f k l0).bind fun t816=>((impl_ProducersRun.f k t816).bind fun bt819=>((spec_ProducersRun.f k t816).bind fun bt825=>((laws_sameInts.f k bt819.2 bt825.2).bind fun t831=>(if t831=true then ((laws_sameProducers.f k bt819.1 bt825.1).bind fun t832=>(laws_FnRunProducers.j0 k t816 bt819.1 bt819.2 bt825.1 bt825.2 (!t832))) else (laws_FnRunProducers.j0 k t816 bt819.1 bt819.2 bt825.1 bt825.2 true))))))
set_option maxHeartbeats 8000000 in
set_option maxRecDepth 100000 in
theorem laws_FnRunProducers.calls (k:Nat) (A0:Option Addr) (c0:Nat) (l0:List Int) (r:Bool) (w:World) (hr0:Kd.C (Kd.int .u8) w A0 l0.length l0) (hc0:l0.length ≤ c0) (h:laws_FnRunProducers.f k l0=some r) :
  Calls Try.prog 14 #[.slice A0 l0.length c0] w fun e w'=>e = .returned (.bool r)∧Below w.heap.size w w':=by
 have hu34:=Try.underlying34
 have HR0:=Aside0.mk hr0
 have HC0:=Aside0.mk hc0
 clear hr0 hc0
 have HB:=Aside0.mk (Below.refl w.heap.size w)
 have H:(if (l0.length:Int) > 1048576 then (some true) else ((spec_DrawProducersRun.f k l0).bind fun t816=>((impl_ProducersRun.f k t816).bind fun bt819=>((spec_ProducersRun.f k t816).bind fun bt825=>((laws_sameInts.f k bt819.2 bt825.2).bind fun t831=>(if t831=true then ((laws_sameProducers.f k bt819.1 bt825.1).bind fun t832=>(laws_FnRunProducers.j0 k t816 bt819.1 bt819.2 bt825.1 bt825.2 (!t832))) else (laws_FnRunProducers.j0 k t816 bt819.1 bt819.2 bt825.1 bt825.2 true)))))))=some r:=h
 clear h
 by_cases c2:(l0.length:Int) > 1048576
 ·rw [if_pos c2] at H
  have c2b0:decide (1048576 < (l0.length:Int))=true:=decide_eq_true c2
  have c2b1:decide (1048576 < l0.length)=true:=decide_eq_true (by omega)
  clear c2
  obtain rfl:=Option.some.inj H
  go_enter Try.func14,Try.ntmps14
  go_wp2
  go_ret
  exact ⟨by first|rfl|(simp [errW_none,errW_some] <;> rfl)|(simp [*,errW_none,errW_some] <;> rfl),by repeat (first|(with_reducible first|exact HB.out|apply below_alloc|apply pw_below_drewN|apply below_drew1)|exact HB.out)⟩
 ·rw [if_neg c2] at H
  have c2b0:decide (1048576 < (l0.length:Int))=false:=decide_eq_false c2
  have c2b1:decide (1048576 < l0.length)=false:=decide_eq_false (by omega)
  clear c2
  replace H:=Option.bind_eq_some_iff.mp H
  obtain ⟨t816,A30,H⟩:=H
  replace H:((impl_ProducersRun.f k t816).bind fun bt819=>((spec_ProducersRun.f k t816).bind fun bt825=>((laws_sameInts.f k bt819.2 bt825.2).bind fun t831=>(if t831=true then ((laws_sameProducers.f k bt819.1 bt825.1).bind fun t832=>(laws_FnRunProducers.j0 k t816 bt819.1 bt819.2 bt825.1 bt825.2 (!t832))) else (laws_FnRunProducers.j0 k t816 bt819.1 bt819.2 bt825.1 bt825.2 true)))))=some r:=H
  have A3:=Aside0.mk A30
  clear A30
  replace H:=Option.bind_eq_some_iff.mp H
  obtain ⟨⟨t819,t820⟩,A40,H⟩:=H
  replace H:((spec_ProducersRun.f k t816).bind fun bt825=>((laws_sameInts.f k t820 bt825.2).bind fun t831=>(if t831=true then ((laws_sameProducers.f k t819 bt825.1).bind fun t832=>(laws_FnRunProducers.j0 k t816 t819 t820 bt825.1 bt825.2 (!t832))) else (laws_FnRunProducers.j0 k t816 t819 t820 bt825.1 bt825.2 true))))=some r:=H
  have A4:=Aside0.mk A40
  clear A40
  replace H:=Option.bind_eq_some_iff.mp H
  obtain ⟨⟨t825,t826⟩,A50,H⟩:=H
  replace H:((laws_sameInts.f k t820 t826).bind fun t831=>(if t831=true then ((laws_sameProducers.f k t819 t825).bind fun t832=>(laws_FnRunProducers.j0 k t816 t819 t820 t825 t826 (!t832))) else (laws_FnRunProducers.j0 k t816 t819 t820 t825 t826 true)))=some r:=H
  have A5:=Aside0.mk A50
  clear A50
  have HC6:=Aside0.mk H
  clear H
  go_enter Try.func14,Try.ntmps14
  go_upto_region 6 with (first|((with_reducible refine gate_callee (f:=35) rfl ?_);refine goesL_ (some 16) rfl rfl Try.func35 (by kernel_rfl) rfl #[.slice A0 l0.length c0] rfl (by (try simp only [map_toArray,map_cons,map_nil]);first|done|rfl|(simp only [length_drop,length_take];rfl)) ?_;(with_reducible refine (spec_DrawProducersRun.calls k _ _ l0 t816 _ ?side1 ?side2 A3.out).mono ?_);(case side1=>repeat (first|exact HR0.out|(with_reducible refine Kd.C_alloc ?_ _)|(with_reducible refine Kd.C_drewN ?_ _)|(with_reducible refine Kd.C_drew ?_)));(case side2=>exact HC0.out);rintro e w7 ⟨v817,rfl,ho0,hb⟩;refine ⟨_,rfl,?_⟩;have n0_:=Aside0.mk (Kd.N_lower (Kd.N_mono (ok':=fun k_=>True) ho0 (fun k_ hk_=>trivial)) (below_size (by repeat (first|(with_reducible first|exact HB.out|apply below_alloc|apply pw_below_drewN|apply below_drew1)|exact HB.out))));have n1_:=Aside0.mk (below_step (by repeat (first|(with_reducible first|exact HB.out|apply below_alloc|apply pw_below_drewN|apply below_drew1)|exact HB.out)) hb);clear HB;have HO818:=n0_;have HB:=n1_;clear n0_ n1_;(try clear hb);(try clear hb2);(try clear hk);(try clear hi);(try clear ho0);obtain ⟨Ao8,co8,eo8⟩:=Kd.N_slice HO818.out;subst eo8)|((with_reducible refine gate_callee (f:=36) rfl ?_);refine goesL_ (some 19) rfl rfl Try.func36 (by kernel_rfl) rfl #[.slice Ao8 t816.length co8] rfl (by (try simp only [map_toArray,map_cons,map_nil]);first|done|rfl|(simp only [length_drop,length_take];rfl)) ?_;(with_reducible refine (impl_ProducersRun.calls k _ _ t816 t819 t820 _ ?side1 ?side2 A4.out).mono ?_);(case side1=>repeat (first|exact (Kd.N_reads' HO818.out).2.2|(with_reducible refine Kd.C_alloc ?_ _)|(with_reducible refine Kd.C_drewN ?_ _)|(with_reducible refine Kd.C_drew ?_)));(case side2=>exact (Kd.N_reads' HO818.out).2.1);rintro e w9 ⟨v821,v823,rfl,ho0,ho1,hb⟩;refine ⟨_,rfl,?_⟩;have n0_:=Aside0.mk (Kd.N_mono (Kd.N_told (Kd.N_told (Kd.N_old (by (with_reducible repeat (first|apply Kd.N_alloc|apply Kd.N_drewN|apply Kd.N_drew));exact HO818.out) hb) (Kd.R_base ho0)) (Kd.R_base ho1)) (fun _ h_=>h_.1));have n1_:=Aside0.mk (Kd.R_lower ho0 (below_size (by repeat (first|(with_reducible first|exact HB.out|apply below_alloc|apply pw_below_drewN|apply below_drew1)|exact HB.out))));have n2_:=Aside0.mk (Kd.R_lower ho1 (below_size (by repeat (first|(with_reducible first|exact HB.out|apply below_alloc|apply pw_below_drewN|apply below_drew1)|exact HB.out))));have n3_:=Aside0.mk (below_step (by repeat (first|(with_reducible first|exact HB.out|apply below_alloc|apply pw_below_drewN|apply below_drew1)|exact HB.out)) hb);clear HO818 HB;have HO818:=n0_;have HO822:=n1_;have HO824:=n2_;have HB:=n3_;clear n0_ n1_ n2_ n3_;(try clear hb);(try clear hb2);(try clear hk);(try clear hi);(try clear ho0);(try clear ho1))|((with_reducible refine gate_callee (f:=37) rfl ?_);refine goesL_ (some 24) rfl rfl Try.func37 (by kernel_rfl) rfl #[.slice Ao8 t816.length co8] rfl (by (try simp only [map_toArray,map_cons,map_nil]);first|done|rfl|(simp only [length_drop,length_take];rfl)) ?_;(with_reducible refine (spec_ProducersRun.calls k _ _ t816 t825 t826 _ ?side1 ?side2 A5.out).mono ?_);(case side1=>repeat (first|exact (Kd.N_reads' HO818.out).2.2|(with_reducible refine Kd.C_alloc ?_ _)|(with_reducible refine Kd.C_drewN ?_ _)|(with_reducible refine Kd.C_drew ?_)));(case side2=>exact (Kd.N_reads' HO818.out).2.1);rintro e w10 ⟨v827,v829,rfl,ho0,ho1,hb⟩;refine ⟨_,rfl,?_⟩;have n0_:=Aside0.mk (Kd.N_mono (Kd.N_told (Kd.N_told (Kd.N_old (by (with_reducible repeat (first|apply Kd.N_alloc|apply Kd.N_drewN|apply Kd.N_drew));exact HO818.out) hb) (Kd.R_base ho0)) (Kd.R_base ho1)) (fun _ h_=>h_.1));have n1_:=Aside0.mk (Kd.R_elder' (by (with_reducible repeat (first|apply Kd.R_alloc|apply Kd.R_drewN|apply Kd.R_drew));exact HO822.out) (Kd.R_base ho0) hb);have n2_:=Aside0.mk (Kd.R_elder' (by (with_reducible repeat (first|apply Kd.R_alloc|apply Kd.R_drewN|apply Kd.R_drew));exact HO824.out) (Kd.R_base ho1) hb);have n3_:=Aside0.mk (Kd.R_lower (Kd.R_new' ho0 (Kd.R_lt (by (with_reducible repeat (first|apply Kd.R_alloc|apply Kd.R_drewN|apply Kd.R_drew));exact HO822.out))) (below_size (by repeat (first|(with_reducible first|exact HB.out|apply below_alloc|apply pw_below_drewN|apply below_drew1)|exact HB.out))));have n4_:=Aside0.mk (Kd.R_lower (Kd.R_new' ho1 (Kd.R_lt (by (with_reducible repeat (first|apply Kd.R_alloc|apply Kd.R_drewN|apply Kd.R_drew));exact HO824.out))) (below_size (by repeat (first|(with_reducible first|exact HB.out|apply below_alloc|apply pw_below_drewN|apply below_drew1)|exact HB.out))));have n5_:=Aside0.mk (below_step (by repeat (first|(with_reducible first|exact HB.out|apply below_alloc|apply pw_below_drewN|apply below_drew1)|exact HB.out)) hb);clear HO818 HO822 HO824 HB;have HO818:=n0_;have HO822:=n1_;have HO824:=n2_;have HO828:=n3_;have HO830:=n4_;have HB:=n5_;clear n0_ n1_ n2_ n3_ n4_ n5_;(try clear hb);(try clear hb2);(try clear hk);(try clear hi);(try clear ho0);(try clear ho1)))
  (try simp only [Act.put,setIfInBounds_toArray,set_cons_zero,set_cons_succ])
  go_cut [36] (fun v36 wc=>∃ (kq:Nat) (x36_5:Bool),v36 = .bool x36_5∧Aside0 (laws_FnRunProducers.j0 kq t816 t819 t820 t825 t826 x36_5=some r)∧Aside0 (kq ≤ k)∧Aside0 (Kd.N k34 34 wc w.heap.size (fun k_=>some k_ ≠ (v821:Value).ownBlock∧some k_ ≠ (v823:Value).ownBlock∧some k_ ≠ (v827:Value).ownBlock∧some k_ ≠ (v829:Value).ownBlock) (.slice Ao8 t816.length co8) t816)∧Aside0 (Kd.R k39 39 wc w.heap.size (fun k_=>some k_ ≠ (v827:Value).ownBlock) v821 t819)∧Aside0 (Kd.R (Kd.int .i64) 3 wc w.heap.size (fun k_=>some k_ ≠ (v829:Value).ownBlock) v823 t820)∧Aside0 (Kd.R k39 39 wc w.heap.size (fun k_=>some k_ ≠ (v821:Value).ownBlock) v827 t825)∧Aside0 (Kd.R (Kd.int .i64) 3 wc w.heap.size (fun k_=>some k_ ≠ (v823:Value).ownBlock) v829 t826)∧Aside0 (Below w.heap.size w wc))
  case first=>
   have H:=HC6.out
   clear HC6
   replace H:=Option.bind_eq_some_iff.mp H
   obtain ⟨t831,A110,H⟩:=H
   replace H:(if t831=true then ((laws_sameProducers.f k t819 t825).bind fun t832=>(laws_FnRunProducers.j0 k t816 t819 t820 t825 t826 (!t832))) else (laws_FnRunProducers.j0 k t816 t819 t820 t825 t826 true))=some r:=H
   have A11:=Aside0.mk A110
   clear A110
   by_cases c12:t831=true
   ·subst c12
    have H1:((laws_sameProducers.f k t819 t825).bind fun t832=>(laws_FnRunProducers.j0 k t816 t819 t820 t825 t826 (!t832)))=some r:=by rw [if_pos rfl] at H;exact H
    clear H
    have H:=H1
    clear H1
    replace H:=Option.bind_eq_some_iff.mp H
    obtain ⟨t832,A130,H⟩:=H
    replace H:(laws_FnRunProducers.j0 k t816 t819 t820 t825 t826 (!t832))=some r:=H
    have A13:=Aside0.mk A130
    clear A130
    have H':=Aside0.mk H
    clear H
    obtain ⟨Ao14,co14,eo14⟩:=Kd.R_slice HO824.out
    subst eo14
    obtain ⟨Ao15,co15,eo15⟩:=Kd.R_slice HO830.out
    subst eo15
    go_wp2_with (first|((with_reducible refine gate_callee (f:=38) rfl ?_);refine goesL_ (some 29) rfl rfl Try.func38 (by kernel_rfl) rfl #[.slice Ao14 t820.length co14,.slice Ao15 t826.length co15] rfl (by (try simp only [map_toArray,map_cons,map_nil]);first|done|rfl|(simp only [length_drop,length_take];rfl)) ?_;(with_reducible refine (laws_sameInts.calls k _ _ t820 _ _ t826 true _ ?side1 ?side2 ?side3 ?side4 A11.out).mono ?_);(case side1=>repeat (first|exact (Kd.R_reads' HO824.out).2.2|(with_reducible refine Kd.C_alloc ?_ _)|(with_reducible refine Kd.C_drewN ?_ _)|(with_reducible refine Kd.C_drew ?_)));(case side2=>exact (Kd.R_reads' HO824.out).2.1);(case side3=>repeat (first|exact (Kd.R_reads' HO830.out).2.2|(with_reducible refine Kd.C_alloc ?_ _)|(with_reducible refine Kd.C_drewN ?_ _)|(with_reducible refine Kd.C_drew ?_)));(case side4=>exact (Kd.R_reads' HO830.out).2.1);rintro e w' ⟨rfl,⟨nd,rfl⟩⟩;refine ⟨_,rfl,?_⟩;obtain ⟨Ao16,co16,eo16⟩:=Kd.R_slice HO822.out;subst eo16;obtain ⟨Ao17,co17,eo17⟩:=Kd.R_slice HO828.out;subst eo17)|(go_at_call 31;(with_reducible refine (laws_sameProducers.calls k _ _ t819 _ _ t825 t832 _ ?side1 ?side2 ?side3 ?side4 A13.out).mono ?_);(case side1=>repeat (first|exact (Kd.R_reads' HO822.out).2.2|(with_reducible refine Kd.C_alloc ?_ _)|(with_reducible refine Kd.C_drewN ?_ _)|(with_reducible refine Kd.C_drew ?_)));(case side2=>exact (Kd.R_reads' HO822.out).2.1);(case side3=>repeat (first|exact (Kd.R_reads' HO828.out).2.2|(with_reducible refine Kd.C_alloc ?_ _)|(with_reducible refine Kd.C_drewN ?_ _)|(with_reducible refine Kd.C_drew ?_)));(case side4=>exact (Kd.R_reads' HO828.out).2.1);rintro e w' ⟨rfl,⟨nd,rfl⟩⟩))
    go_meet
    case rel=>exact ⟨_,(!t832),(by first|rfl|(simp;done)|(simp [*];done)),H',⟨by first|omega|exact Nat.le_refl _⟩,⟨by (with_reducible repeat (first|apply Kd.N_alloc|apply Kd.N_drewN|apply Kd.N_drew));exact Kd.N_mono HO818.out (fun _ hk=>⟨hk.1.1.1.2,⟨hk.1.1.2,⟨hk.1.2,hk.2⟩⟩⟩)⟩,⟨by (with_reducible repeat (first|apply Kd.R_alloc|apply Kd.R_drewN|apply Kd.R_drew));exact Kd.R_mono HO822.out (fun _ hk=>hk.2)⟩,⟨by (with_reducible repeat (first|apply Kd.R_alloc|apply Kd.R_drewN|apply Kd.R_drew));exact Kd.R_mono HO824.out (fun _ hk=>hk.2)⟩,⟨by (with_reducible repeat (first|apply Kd.R_alloc|apply Kd.R_drewN|apply Kd.R_drew));exact Kd.R_mono HO828.out (fun _ hk=>hk.2)⟩,⟨by (with_reducible repeat (first|apply Kd.R_alloc|apply Kd.R_drewN|apply Kd.R_drew));exact Kd.R_mono HO830.out (fun _ hk=>hk.2)⟩,⟨by repeat (first|(with_reducible first|exact HB.out|apply below_alloc|apply pw_below_drewN|apply below_drew1)|exact HB.out)⟩⟩
   ·replace c12:=Bool.eq_false_iff.mpr c12
    subst c12
    have H1:(laws_FnRunProducers.j0 k t816 t819 t820 t825 t826 true)=some r:=by rw [if_neg (show ¬ (false=true) by decide)] at H;exact H
    clear H
    have H:=H1
    clear H1
    have H':=Aside0.mk H
    clear H
    obtain ⟨Ao18,co18,eo18⟩:=Kd.R_slice HO824.out
    subst eo18
    obtain ⟨Ao19,co19,eo19⟩:=Kd.R_slice HO830.out
    subst eo19
    go_wp2_with (first|((with_reducible refine gate_callee (f:=38) rfl ?_);refine goesL_ (some 29) rfl rfl Try.func38 (by kernel_rfl) rfl #[.slice Ao18 t820.length co18,.slice Ao19 t826.length co19] rfl (by (try simp only [map_toArray,map_cons,map_nil]);first|done|rfl|(simp only [length_drop,length_take];rfl)) ?_;(with_reducible refine (laws_sameInts.calls k _ _ t820 _ _ t826 false _ ?side1 ?side2 ?side3 ?side4 A11.out).mono ?_);(case side1=>repeat (first|exact (Kd.R_reads' HO824.out).2.2|(with_reducible refine Kd.C_alloc ?_ _)|(with_reducible refine Kd.C_drewN ?_ _)|(with_reducible refine Kd.C_drew ?_)));(case side2=>exact (Kd.R_reads' HO824.out).2.1);(case side3=>repeat (first|exact (Kd.R_reads' HO830.out).2.2|(with_reducible refine Kd.C_alloc ?_ _)|(with_reducible refine Kd.C_drewN ?_ _)|(with_reducible refine Kd.C_drew ?_)));(case side4=>exact (Kd.R_reads' HO830.out).2.1);rintro e w' ⟨rfl,⟨nd,rfl⟩⟩;refine ⟨_,rfl,?_⟩))
    go_meet
    case rel=>exact ⟨_,(true),(by first|rfl|(simp;done)|(simp [*];done)),H',⟨by first|omega|exact Nat.le_refl _⟩,⟨by (with_reducible repeat (first|apply Kd.N_alloc|apply Kd.N_drewN|apply Kd.N_drew));exact Kd.N_mono HO818.out (fun _ hk=>⟨hk.1.1.1.2,⟨hk.1.1.2,⟨hk.1.2,hk.2⟩⟩⟩)⟩,⟨by (with_reducible repeat (first|apply Kd.R_alloc|apply Kd.R_drewN|apply Kd.R_drew));exact Kd.R_mono HO822.out (fun _ hk=>hk.2)⟩,⟨by (with_reducible repeat (first|apply Kd.R_alloc|apply Kd.R_drewN|apply Kd.R_drew));exact Kd.R_mono HO824.out (fun _ hk=>hk.2)⟩,⟨by (with_reducible repeat (first|apply Kd.R_alloc|apply Kd.R_drewN|apply Kd.R_drew));exact Kd.R_mono HO828.out (fun _ hk=>hk.2)⟩,⟨by (with_reducible repeat (first|apply Kd.R_alloc|apply Kd.R_drewN|apply Kd.R_drew));exact Kd.R_mono HO830.out (fun _ hk=>hk.2)⟩,⟨by repeat (first|(with_reducible first|exact HB.out|apply below_alloc|apply pw_below_drewN|apply below_drew1)|exact HB.out)⟩⟩
  case rest=>
   clear HC6
   try clear c1
   try clear c2
   try clear c2b0
   try clear c2b1
   try clear p2
   try clear c3
   try clear c12
   try clear c14
   obtain ⟨kq,x36_5,rfl,HA,HJ5,HO_3,HO_4,HO_5,HO_6,HO_7,HB⟩:=hcut
   cases kq with
   | zero=>exact absurd HA.out (by simp [laws_FnRunProducers.j0])
   | succ kj5=>
    have H:=HA.out
    clear HA
    simp only [laws_FnRunProducers.j0] at H
    by_cases c20:x36_5=true
    ·subst c20
     have H1:((laws_sameInts.f kj5 t820 t826).bind fun t833=>(if t833=true then ((laws_sameProducers.f kj5 t819 t825).bind fun t834=>(some t834)) else (some false)))=some r:=by rw [if_pos rfl] at H;exact H
     clear H
     have H:=H1
     clear H1
     replace H:=Option.bind_eq_some_iff.mp H
     obtain ⟨t833,A210,H⟩:=H
     replace H:(if t833=true then ((laws_sameProducers.f kj5 t819 t825).bind fun t834=>(some t834)) else (some false))=some r:=H
     have A21:=Aside0.mk A210
     clear A210
     by_cases c22:t833=true
     ·subst c22
      have H1:((laws_sameProducers.f kj5 t819 t825).bind fun t834=>(some t834))=some r:=by rw [if_pos rfl] at H;exact H
      clear H
      have H:=H1
      clear H1
      replace H:=Option.bind_eq_some_iff.mp H
      obtain ⟨t834,A230,H⟩:=H
      replace H:(some t834)=some r:=H
      have A23:=Aside0.mk A230
      clear A230
      obtain rfl:=Option.some.inj H
      obtain ⟨Ao24,co24,eo24⟩:=Kd.R_slice HO_5.out
      subst eo24
      obtain ⟨Ao25,co25,eo25⟩:=Kd.R_slice HO_7.out
      subst eo25
      go_wp2_with (first|((with_reducible refine gate_callee (f:=38) rfl ?_);refine goesL_ (some 39) rfl rfl Try.func38 (by kernel_rfl) rfl #[.slice Ao24 t820.length co24,.slice Ao25 t826.length co25] rfl (by (try simp only [map_toArray,map_cons,map_nil]);first|done|rfl|(simp only [length_drop,length_take];rfl)) ?_;(with_reducible refine (laws_sameInts.calls kj5 _ _ t820 _ _ t826 true _ ?side1 ?side2 ?side3 ?side4 A21.out).mono ?_);(case side1=>repeat (first|exact (Kd.R_reads' HO_5.out).2.2|(with_reducible refine Kd.C_alloc ?_ _)|(with_reducible refine Kd.C_drewN ?_ _)|(with_reducible refine Kd.C_drew ?_)));(case side2=>exact (Kd.R_reads' HO_5.out).2.1);(case side3=>repeat (first|exact (Kd.R_reads' HO_7.out).2.2|(with_reducible refine Kd.C_alloc ?_ _)|(with_reducible refine Kd.C_drewN ?_ _)|(with_reducible refine Kd.C_drew ?_)));(case side4=>exact (Kd.R_reads' HO_7.out).2.1);rintro e w' ⟨rfl,⟨nd,rfl⟩⟩;refine ⟨_,rfl,?_⟩;obtain ⟨Ao26,co26,eo26⟩:=Kd.R_slice HO_4.out;subst eo26;obtain ⟨Ao27,co27,eo27⟩:=Kd.R_slice HO_6.out;subst eo27)|(go_at_call 31;(with_reducible refine (laws_sameProducers.calls kj5 _ _ t819 _ _ t825 t834 _ ?side1 ?side2 ?side3 ?side4 A23.out).mono ?_);(case side1=>repeat (first|exact (Kd.R_reads' HO_4.out).2.2|(with_reducible refine Kd.C_alloc ?_ _)|(with_reducible refine Kd.C_drewN ?_ _)|(with_reducible refine Kd.C_drew ?_)));(case side2=>exact (Kd.R_reads' HO_4.out).2.1);(case side3=>repeat (first|exact (Kd.R_reads' HO_6.out).2.2|(with_reducible refine Kd.C_alloc ?_ _)|(with_reducible refine Kd.C_drewN ?_ _)|(with_reducible refine Kd.C_drew ?_)));(case side4=>exact (Kd.R_reads' HO_6.out).2.1);rintro e w' ⟨rfl,⟨nd,rfl⟩⟩))
      go_ret
      exact ⟨by first|rfl|(simp [errW_none,errW_some] <;> rfl)|(simp [*,errW_none,errW_some] <;> rfl),by repeat (first|(with_reducible first|exact HB.out|apply below_alloc|apply pw_below_drewN|apply below_drew1)|exact HB.out)⟩
     ·replace c22:=Bool.eq_false_iff.mpr c22
      subst c22
      have H1:(some false)=some r:=by rw [if_neg (show ¬ (false=true) by decide)] at H;exact H
      clear H
      have H:=H1
      clear H1
      obtain rfl:=Option.some.inj H
      obtain ⟨Ao28,co28,eo28⟩:=Kd.R_slice HO_5.out
      subst eo28
      obtain ⟨Ao29,co29,eo29⟩:=Kd.R_slice HO_7.out
      subst eo29
      go_wp2_with (first|((with_reducible refine gate_callee (f:=38) rfl ?_);refine goesL_ (some 39) rfl rfl Try.func38 (by kernel_rfl) rfl #[.slice Ao28 t820.length co28,.slice Ao29 t826.length co29] rfl (by (try simp only [map_toArray,map_cons,map_nil]);first|done|rfl|(simp only [length_drop,length_take];rfl)) ?_;(with_reducible refine (laws_sameInts.calls kj5 _ _ t820 _ _ t826 false _ ?side1 ?side2 ?side3 ?side4 A21.out).mono ?_);(case side1=>repeat (first|exact (Kd.R_reads' HO_5.out).2.2|(with_reducible refine Kd.C_alloc ?_ _)|(with_reducible refine Kd.C_drewN ?_ _)|(with_reducible refine Kd.C_drew ?_)));(case side2=>exact (Kd.R_reads' HO_5.out).2.1);(case side3=>repeat (first|exact (Kd.R_reads' HO_7.out).2.2|(with_reducible refine Kd.C_alloc ?_ _)|(with_reducible refine Kd.C_drewN ?_ _)|(with_reducible refine Kd.C_drew ?_)));(case side4=>exact (Kd.R_reads' HO_7.out).2.1);rintro e w' ⟨rfl,⟨nd,rfl⟩⟩;refine ⟨_,rfl,?_⟩))
      go_ret
      exact ⟨by first|rfl|(simp [errW_none,errW_some] <;> rfl)|(simp [*,errW_none,errW_some] <;> rfl),by repeat (first|(with_reducible first|exact HB.out|apply below_alloc|apply pw_below_drewN|apply below_drew1)|exact HB.out)⟩
    ·replace c20:=Bool.eq_false_iff.mpr c20
     subst c20
     have H1:(laws_FnRunProducers.l0 kj5 t816 t819 t820 (([]:List (S39))) 0)=some r:=by rw [if_neg (show ¬ (false=true) by decide)] at H;exact H
     clear H
     have H:=H1
     clear H1
     obtain ⟨y835,hy835⟩:∃ y_:List (S39),y_=(([]:List (S39))):=⟨_,rfl⟩
     replace H:(laws_FnRunProducers.l0 kj5 t816 t819 t820 y835 0)=some r:=by first|(rw [hy835];with_reducible exact H)|(have H2_:=(Option.bind_some _ _).symm.trans H;rw [hy835];with_reducible exact H2_)|(have H2_:=(Option.bind_some _ _).symm.trans H;with_reducible exact H2_)|with_reducible exact H|(rw [hy835];exact H)|exact H
     have Ny835:=Aside0.mk hy835
     clear hy835
     have H':=Aside0.mk H
     clear H
     go_wp2_with (first|((with_reducible refine gate_dst (N:=45) rfl ?_);refine Kd.R_lit k39 _ 39 ?hg (N:=45) ?hd (xs:=([]:List (S39))) (inner:=[]) (ok:=fun _=>True) (okp:=fun _=>True) ?hr ?hp (fun _ hk=>hk) trivial (Below.refl _ _) (Nat.le_refl _) (by simp) ?_;(case hd=>rfl);(case hg=>rfl);(case hr=>first|(go_simp;done)|(go_simp;rfl));(case hp=>exact (Reps.none _ _));intro v836 w30 ho31 hb hg_ hnew_;clear hg_ hnew_;(first|rw [← Ny835.out] at ho31|(simp only [Int.reduceToNat] at ho31;rw [← Ny835.out] at ho31));have n0_:=Aside0.mk (Kd.N_elder' (by (with_reducible repeat (first|apply Kd.N_alloc|apply Kd.N_drewN|apply Kd.N_drew));exact HO_3.out) (Kd.R_base ho31) hb);have n1_:=Aside0.mk (Kd.R_elder' (by (with_reducible repeat (first|apply Kd.R_alloc|apply Kd.R_drewN|apply Kd.R_drew));exact HO_4.out) (Kd.R_base ho31) hb);have n2_:=Aside0.mk (Kd.R_below (by (with_reducible repeat (first|apply Kd.R_alloc|apply Kd.R_drewN|apply Kd.R_drew));exact HO_5.out) hb);have n3_:=Aside0.mk (Kd.R_elder' (by (with_reducible repeat (first|apply Kd.R_alloc|apply Kd.R_drewN|apply Kd.R_drew));exact HO_6.out) (Kd.R_base ho31) hb);have n4_:=Aside0.mk (Kd.R_below (by (with_reducible repeat (first|apply Kd.R_alloc|apply Kd.R_drewN|apply Kd.R_drew));exact HO_7.out) hb);have n5_:=Aside0.mk (Kd.R_lower (Kd.R_new' (Kd.R_new' ho31 (Kd.R_lt (by (with_reducible repeat (first|apply Kd.R_alloc|apply Kd.R_drewN|apply Kd.R_drew));exact HO_4.out))) (Kd.R_lt (by (with_reducible repeat (first|apply Kd.R_alloc|apply Kd.R_drewN|apply Kd.R_drew));exact HO_6.out))) (below_size (by repeat (first|(with_reducible first|exact HB.out|apply below_alloc|apply pw_below_drewN|apply below_drew1)|exact HB.out))));have n6_:=Aside0.mk (below_step (by repeat (first|(with_reducible first|exact HB.out|apply below_alloc|apply pw_below_drewN|apply below_drew1)|exact HB.out)) hb);clear HO_3 HO_4 HO_5 HO_6 HO_7 HB;have HO_3:=n0_;have HO_4:=n1_;have HO_5:=n2_;have HO_6:=n3_;have HO_7:=n4_;have HO837:=n5_;have HB:=n6_;clear n0_ n1_ n2_ n3_ n4_ n5_ n6_;clear hb ho31))
     go_loopg [8,9] kj5 (fun kq v8 v9 w'=>∃ (x8_2:List (S39)) (x9_2:Int),v9 = .int .i64 x9_2∧Aside0 (laws_FnRunProducers.l0 kq t816 t819 t820 x8_2 x9_2=some r)∧Aside0 (kq ≤ kj5)∧Aside0 (Kd.N k34 34 w' w.heap.size (fun k_=>some k_ ≠ (v821:Value).ownBlock∧some k_ ≠ (v823:Value).ownBlock∧some k_ ≠ (v8:Value).ownBlock) (.slice Ao8 t816.length co8) t816)∧Aside0 (Kd.R k39 39 w' w.heap.size (fun k_=>some k_ ≠ (v8:Value).ownBlock) v821 t819)∧Aside0 (Kd.R (Kd.int .i64) 3 w' w.heap.size (fun _=>True) v823 t820)∧Aside0 (Kd.R k39 39 w' w.heap.size (fun k_=>some k_ ≠ (v821:Value).ownBlock) v8 x8_2)∧Aside0 (Below w.heap.size w w'))
     case atStart=>exact ⟨(y835),(0),(by first|rfl|(simp;done)|(simp [*];done)),H',⟨Nat.le_refl _⟩,⟨by (with_reducible repeat (first|apply Kd.N_alloc|apply Kd.N_drewN|apply Kd.N_drew));exact Kd.N_mono HO_3.out (fun _ hk=>⟨hk.1.1,⟨hk.1.2.1,hk.2⟩⟩)⟩,⟨by (with_reducible repeat (first|apply Kd.R_alloc|apply Kd.R_drewN|apply Kd.R_drew));exact Kd.R_mono HO_4.out (fun _ hk=>hk.2)⟩,⟨by (with_reducible repeat (first|apply Kd.R_alloc|apply Kd.R_drewN|apply Kd.R_drew));exact Kd.R_mono HO_5.out (fun _ hk=>trivial)⟩,⟨by (with_reducible repeat (first|apply Kd.R_alloc|apply Kd.R_drewN|apply Kd.R_drew));exact Kd.R_mono HO837.out (fun _ hk=>hk.1.2)⟩,⟨by repeat (first|(with_reducible first|exact HB.out|apply below_alloc|apply pw_below_drewN|apply below_drew1)|exact HB.out)⟩⟩
     case round=>
      clear H'
      try clear c1
      try clear c2
      try clear c2b0
      try clear c2b1
      try clear p2
      try clear c3
      try clear c12
      try clear c14
      try clear c20
      try clear c22
      try clear p2
      obtain ⟨x8_2,x9_2,rfl,HA,HK2,HO_3,HO_4,HO_5,HO_8,HB⟩:=hrel
      cases gk with
      | zero=>exact absurd HA.out (by simp [laws_FnRunProducers.l0])
      | succ k2=>
       have H:=HA.out
       clear HA
       simp only [laws_FnRunProducers.l0] at H
       by_cases c32:x9_2 < (t816.length:Int)
       ·rw [if_pos c32] at H
        have c32b0:decide (x9_2 < (t816.length:Int))=true:=decide_eq_true c32
        clear c32
        by_cases c33 : 0 ≤ x9_2
        ·rw [if_pos c33] at H
         have c33b0:decide (0 ≤ x9_2)=true:=decide_eq_true c33
         clear c33
         replace H:=Option.bind_eq_some_iff.mp H
         obtain ⟨⟨t841,t844⟩,A340,H⟩:=H
         replace H:(if x9_2 < (t820.length:Int) then (if t844=(rd t820 x9_2) then (if t844=5 then (laws_FnRunProducers.l0 k2 t816 t819 t820 x8_2 (wrap64 (x9_2+1))) else (laws_FnRunProducers.l0 k2 t816 t819 t820 t841 (wrap64 (x9_2+1)))) else (some false)) else (none))=some r:=H
         have A34:=Aside0.mk A340
         clear A340
         by_cases c35:x9_2 < (t820.length:Int)
         ·rw [if_pos c35] at H
          have c35b0:decide (x9_2 < (t820.length:Int))=true:=decide_eq_true c35
          clear c35
          by_cases c36:t844=(rd t820 x9_2)
          ·rw [if_pos c36] at H
           have c36b0:(t844 == (rd t820 x9_2))=true:=beq_iff_eq.mpr c36
           have c36b1:(t844 != (rd t820 x9_2))=false:=bne_eq_false_iff_eq.mpr c36
           clear c36
           by_cases c37:t844=5
           ·rw [if_pos c37] at H
            have c37b0:(t844 == 5)=true:=beq_iff_eq.mpr c37
            have c37b1:(t844 != 5)=false:=bne_eq_false_iff_eq.mpr c37
            clear c37
            have H':=Aside0.mk H
            clear H
            have p840 : 0 ≤ (x9_2:Int):=of_decide_eq_true (by first|(with_reducible assumption)|assumption)
            have q840:x9_2 < (t816.length:Int):=of_decide_eq_true (by first|(with_reducible assumption)|assumption)
            obtain ⟨ad840,A840_5,c840_5,e840,hx840_0,hx840_1,hx840_2,hx840_3,hx840_4,hx840_5,hl840_5,hi840_5⟩:=at_T34 (Kd.N_reads' HO_3.out).2.2 x9_2 p840 q840
            cases e840
            obtain ⟨ce840,hce840,hMe840,hcc840⟩:=Kd.N_get HO_3.out z34 x9_2 p840 (by first|exact q840|exact of_decide_eq_true (by first|(with_reducible assumption)|assumption)|(have e_:=(Kd.N_reads' HO_3.out).1;omega))
            obtain ⟨ua840_5,uc840_5,rfl,ul840_5,ge840_5⟩:=k34_openF hMe840
            have hv840_5:=hcc840 5 _ rfl
            rw [add_field _ _ 5 (by omega)] at hv840_5
            replace hv840_5:=Option.some.inj (hv840_5.symm.trans hx840_5)
            injection hv840_5 with hva_ hvn_ hvc_
            rw [hva_] at ge840_5
            rw [hvc_] at ul840_5
            have HL840_5:=Aside0.mk (show Kd.V k79 79 _ w.heap.size _ _ ((rd_T34 t816 x9_2).f5) from Kd.V_mk ul840_5 ge840_5)
            clear hva_ hvn_ hvc_ ge840_5 ul840_5
            clear hcc840 hce840
            have HR840_5:=Aside0.mk hi840_5
            have HC840_5:=Aside0.mk hl840_5
            clear hi840_5 hl840_5
            replace p840:=eq_true p840
            replace q840:=eq_true q840
            obtain ⟨Ao38,co38,eo38⟩:=Kd.R_slice HO_8.out
            subst eo38
            go_wp2_with (first|((with_reducible refine gate_callee (f:=29) rfl ?_);refine goesL_ (some 58) rfl rfl Try.func29 (by kernel_rfl) rfl #[.slice Ao38 x8_2.length co38,.agg #[.bool ((rd_T34 t816 x9_2).f0),.bool ((rd_T34 t816 x9_2).f1),.int .i64 ((rd_T34 t816 x9_2).f2),.int .i64 ((rd_T34 t816 x9_2).f3),.int .i64 ((rd_T34 t816 x9_2).f4),.slice A840_5 ((rd_T34 t816 x9_2).f5).length c840_5]] rfl (by (try simp only [map_toArray,map_cons,map_nil]);first|done|rfl|(simp only [length_drop,length_take];rfl)) ?_;(with_reducible refine (impl_ProducersPut.calls k2 _ _ x8_2 ((rd_T34 t816 x9_2).f0) ((rd_T34 t816 x9_2).f1) ((rd_T34 t816 x9_2).f2) ((rd_T34 t816 x9_2).f3) ((rd_T34 t816 x9_2).f4) _ _ ((rd_T34 t816 x9_2).f5) t841 t844 _ ?side1 ?side2 ?side3 ?side4 A34.out).mono ?_);(case side1=>repeat (first|exact (Kd.R_reads' HO_8.out).2.2|(with_reducible refine Kd.C_alloc ?_ _)|(with_reducible refine Kd.C_drewN ?_ _)|(with_reducible refine Kd.C_drew ?_)));(case side2=>exact (Kd.R_reads' HO_8.out).2.1);(case side3=>repeat (first|exact (by repeat (first|(with_reducible exact HR840_5.out)|(with_reducible refine Kd.C_alloc ?_ _)|(with_reducible refine Kd.C_drewN ?_ _)|(with_reducible refine Kd.C_drew ?_)|exact HR840_5.out))|(with_reducible refine Kd.C_alloc ?_ _)|(with_reducible refine Kd.C_drewN ?_ _)|(with_reducible refine Kd.C_drew ?_)));(case side4=>exact HC840_5.out);rintro e w39 ⟨v842,rfl,ho0,hb⟩;refine ⟨_,rfl,?_⟩;have n0_:=Aside0.mk (Kd.N_elder' (by (with_reducible repeat (first|apply Kd.N_alloc|apply Kd.N_drewN|apply Kd.N_drew));exact HO_3.out) (Kd.R_base ho0) hb);have n1_:=Aside0.mk (Kd.R_elder' (by (with_reducible repeat (first|apply Kd.R_alloc|apply Kd.R_drewN|apply Kd.R_drew));exact HO_4.out) (Kd.R_base ho0) hb);have n2_:=Aside0.mk (Kd.R_below (by (with_reducible repeat (first|apply Kd.R_alloc|apply Kd.R_drewN|apply Kd.R_drew));exact HO_5.out) hb);have n3_:=Aside0.mk (Kd.R_elder' (by (with_reducible repeat (first|apply Kd.R_alloc|apply Kd.R_drewN|apply Kd.R_drew));exact HO_8.out) (Kd.R_base ho0) hb);have n4_:=Aside0.mk (Kd.V_elder' (by (with_reducible repeat (first|apply Kd.V_alloc|apply Kd.V_drewN|apply Kd.V_drew));exact HL840_5.out) (Kd.R_base ho0) hb);have n5_:=Aside0.mk (Kd.R_lower (Kd.R_new' (Kd.R_new' ho0 (Kd.R_lt (by (with_reducible repeat (first|apply Kd.R_alloc|apply Kd.R_drewN|apply Kd.R_drew));exact HO_4.out))) (Kd.R_lt (by (with_reducible repeat (first|apply Kd.R_alloc|apply Kd.R_drewN|apply Kd.R_drew));exact HO_8.out))) (below_size (by repeat (first|(with_reducible first|exact HB.out|apply below_alloc|apply pw_below_drewN|apply below_drew1)|exact HB.out))));have n6_:=Aside0.mk (Kd.C_below (by repeat (first|(with_reducible exact HR840_5.out)|(with_reducible refine Kd.C_alloc ?_ _)|(with_reducible refine Kd.C_drewN ?_ _)|(with_reducible refine Kd.C_drew ?_)|exact HR840_5.out)) hb);have n7_:=Aside0.mk (below_step (by repeat (first|(with_reducible first|exact HB.out|apply below_alloc|apply pw_below_drewN|apply below_drew1)|exact HB.out)) hb);clear HO_3 HO_4 HO_5 HO_8 HL840_5 HR840_5 HB;have HO_3:=n0_;have HO_4:=n1_;have HO_5:=n2_;have HO_8:=n3_;have HL840_5:=n4_;have HO843:=n5_;have HR840_5:=n6_;have HB:=n7_;clear n0_ n1_ n2_ n3_ n4_ n5_ n6_ n7_;(try clear hb);(try clear hb2);(try clear hk);(try clear hi);(try clear ho0);obtain ⟨Ao40,co40,eo40⟩:=Kd.R_slice HO_5.out;subst eo40;have p845 : 0 ≤ (x9_2:Int):=of_decide_eq_true (by first|(with_reducible assumption)|assumption);have q845:x9_2 < (t820.length:Int):=of_decide_eq_true (by first|(with_reducible assumption)|assumption);obtain ⟨ad845,e845,hx845_0⟩:=Kd.at_int (Kd.R_reads' HO_5.out).2.2 x9_2 p845 q845;cases e845;replace p845:=eq_true p845;replace q845:=eq_true q845))
            go_roundg k2
            case measure=>have:=HJ5.out;have:=HK2.out;omega
            case rel=>exact ⟨(x8_2),(wrap64 (x9_2+1)),(by first|rfl|(simp;done)|(simp [*];done)),H',⟨by have:=HJ5.out;have:=HK2.out;omega⟩,⟨by (with_reducible repeat (first|apply Kd.N_alloc|apply Kd.N_drewN|apply Kd.N_drew));exact Kd.N_mono HO_3.out (fun _ hk=>⟨hk.1.1,⟨hk.1.2.1,hk.1.2.2⟩⟩)⟩,⟨by (with_reducible repeat (first|apply Kd.R_alloc|apply Kd.R_drewN|apply Kd.R_drew));exact Kd.R_mono HO_4.out (fun _ hk=>hk.1)⟩,⟨by (with_reducible repeat (first|apply Kd.R_alloc|apply Kd.R_drewN|apply Kd.R_drew));exact HO_5.out⟩,⟨by (with_reducible repeat (first|apply Kd.R_alloc|apply Kd.R_drewN|apply Kd.R_drew));exact Kd.R_mono HO_8.out (fun _ hk=>hk.1)⟩,⟨by repeat (first|(with_reducible first|exact HB.out|apply below_alloc|apply pw_below_drewN|apply below_drew1)|exact HB.out)⟩⟩
           ·rw [if_neg c37] at H
            have c37b0:(t844 == 5)=false:=beq_eq_false_iff_ne.mpr c37
            have c37b1:(t844 != 5)=true:=bne_iff_ne.mpr c37
            have H':=Aside0.mk H
            clear H
            have p840 : 0 ≤ (x9_2:Int):=of_decide_eq_true (by first|(with_reducible assumption)|assumption)
            have q840:x9_2 < (t816.length:Int):=of_decide_eq_true (by first|(with_reducible assumption)|assumption)
            obtain ⟨ad840,A840_5,c840_5,e840,hx840_0,hx840_1,hx840_2,hx840_3,hx840_4,hx840_5,hl840_5,hi840_5⟩:=at_T34 (Kd.N_reads' HO_3.out).2.2 x9_2 p840 q840
            cases e840
            obtain ⟨ce840,hce840,hMe840,hcc840⟩:=Kd.N_get HO_3.out z34 x9_2 p840 (by first|exact q840|exact of_decide_eq_true (by first|(with_reducible assumption)|assumption)|(have e_:=(Kd.N_reads' HO_3.out).1;omega))
            obtain ⟨ua840_5,uc840_5,rfl,ul840_5,ge840_5⟩:=k34_openF hMe840
            have hv840_5:=hcc840 5 _ rfl
            rw [add_field _ _ 5 (by omega)] at hv840_5
            replace hv840_5:=Option.some.inj (hv840_5.symm.trans hx840_5)
            injection hv840_5 with hva_ hvn_ hvc_
            rw [hva_] at ge840_5
            rw [hvc_] at ul840_5
            have HL840_5:=Aside0.mk (show Kd.V k79 79 _ w.heap.size _ _ ((rd_T34 t816 x9_2).f5) from Kd.V_mk ul840_5 ge840_5)
            clear hva_ hvn_ hvc_ ge840_5 ul840_5
            clear hcc840 hce840
            have HR840_5:=Aside0.mk hi840_5
            have HC840_5:=Aside0.mk hl840_5
            clear hi840_5 hl840_5
            replace p840:=eq_true p840
            replace q840:=eq_true q840
            obtain ⟨Ao41,co41,eo41⟩:=Kd.R_slice HO_8.out
            subst eo41
            go_wp2_with (first|((with_reducible refine gate_callee (f:=29) rfl ?_);refine goesL_ (some 58) rfl rfl Try.func29 (by kernel_rfl) rfl #[.slice Ao41 x8_2.length co41,.agg #[.bool ((rd_T34 t816 x9_2).f0),.bool ((rd_T34 t816 x9_2).f1),.int .i64 ((rd_T34 t816 x9_2).f2),.int .i64 ((rd_T34 t816 x9_2).f3),.int .i64 ((rd_T34 t816 x9_2).f4),.slice A840_5 ((rd_T34 t816 x9_2).f5).length c840_5]] rfl (by (try simp only [map_toArray,map_cons,map_nil]);first|done|rfl|(simp only [length_drop,length_take];rfl)) ?_;(with_reducible refine (impl_ProducersPut.calls k2 _ _ x8_2 ((rd_T34 t816 x9_2).f0) ((rd_T34 t816 x9_2).f1) ((rd_T34 t816 x9_2).f2) ((rd_T34 t816 x9_2).f3) ((rd_T34 t816 x9_2).f4) _ _ ((rd_T34 t816 x9_2).f5) t841 t844 _ ?side1 ?side2 ?side3 ?side4 A34.out).mono ?_);(case side1=>repeat (first|exact (Kd.R_reads' HO_8.out).2.2|(with_reducible refine Kd.C_alloc ?_ _)|(with_reducible refine Kd.C_drewN ?_ _)|(with_reducible refine Kd.C_drew ?_)));(case side2=>exact (Kd.R_reads' HO_8.out).2.1);(case side3=>repeat (first|exact (by repeat (first|(with_reducible exact HR840_5.out)|(with_reducible refine Kd.C_alloc ?_ _)|(with_reducible refine Kd.C_drewN ?_ _)|(with_reducible refine Kd.C_drew ?_)|exact HR840_5.out))|(with_reducible refine Kd.C_alloc ?_ _)|(with_reducible refine Kd.C_drewN ?_ _)|(with_reducible refine Kd.C_drew ?_)));(case side4=>exact HC840_5.out);rintro e w42 ⟨v842,rfl,ho0,hb⟩;refine ⟨_,rfl,?_⟩;have n0_:=Aside0.mk (Kd.N_elder' (by (with_reducible repeat (first|apply Kd.N_alloc|apply Kd.N_drewN|apply Kd.N_drew));exact HO_3.out) (Kd.R_base ho0) hb);have n1_:=Aside0.mk (Kd.R_elder' (by (with_reducible repeat (first|apply Kd.R_alloc|apply Kd.R_drewN|apply Kd.R_drew));exact HO_4.out) (Kd.R_base ho0) hb);have n2_:=Aside0.mk (Kd.R_below (by (with_reducible repeat (first|apply Kd.R_alloc|apply Kd.R_drewN|apply Kd.R_drew));exact HO_5.out) hb);have n3_:=Aside0.mk (Kd.R_elder' (by (with_reducible repeat (first|apply Kd.R_alloc|apply Kd.R_drewN|apply Kd.R_drew));exact HO_8.out) (Kd.R_base ho0) hb);have n4_:=Aside0.mk (Kd.V_elder' (by (with_reducible repeat (first|apply Kd.V_alloc|apply Kd.V_drewN|apply Kd.V_drew));exact HL840_5.out) (Kd.R_base ho0) hb);have n5_:=Aside0.mk (Kd.R_lower (Kd.R_new' (Kd.R_new' ho0 (Kd.R_lt (by (with_reducible repeat (first|apply Kd.R_alloc|apply Kd.R_drewN|apply Kd.R_drew));exact HO_4.out))) (Kd.R_lt (by (with_reducible repeat (first|apply Kd.R_alloc|apply Kd.R_drewN|apply Kd.R_drew));exact HO_8.out))) (below_size (by repeat (first|(with_reducible first|exact HB.out|apply below_alloc|apply pw_below_drewN|apply below_drew1)|exact HB.out))));have n6_:=Aside0.mk (Kd.C_below (by repeat (first|(with_reducible exact HR840_5.out)|(with_reducible refine Kd.C_alloc ?_ _)|(with_reducible refine Kd.C_drewN ?_ _)|(with_reducible refine Kd.C_drew ?_)|exact HR840_5.out)) hb);have n7_:=Aside0.mk (below_step (by repeat (first|(with_reducible first|exact HB.out|apply below_alloc|apply pw_below_drewN|apply below_drew1)|exact HB.out)) hb);clear HO_3 HO_4 HO_5 HO_8 HL840_5 HR840_5 HB;have HO_3:=n0_;have HO_4:=n1_;have HO_5:=n2_;have HO_8:=n3_;have HL840_5:=n4_;have HO843:=n5_;have HR840_5:=n6_;have HB:=n7_;clear n0_ n1_ n2_ n3_ n4_ n5_ n6_ n7_;(try clear hb);(try clear hb2);(try clear hk);(try clear hi);(try clear ho0);obtain ⟨Ao43,co43,eo43⟩:=Kd.R_slice HO_5.out;subst eo43;have p845 : 0 ≤ (x9_2:Int):=of_decide_eq_true (by first|(with_reducible assumption)|assumption);have q845:x9_2 < (t820.length:Int):=of_decide_eq_true (by first|(with_reducible assumption)|assumption);obtain ⟨ad845,e845,hx845_0⟩:=Kd.at_int (Kd.R_reads' HO_5.out).2.2 x9_2 p845 q845;cases e845;replace p845:=eq_true p845;replace q845:=eq_true q845))
            go_roundg k2
            case measure=>have:=HJ5.out;have:=HK2.out;omega
            case rel=>exact ⟨(t841),(wrap64 (x9_2+1)),(by first|rfl|(simp;done)|(simp [*];done)),H',⟨by have:=HJ5.out;have:=HK2.out;omega⟩,⟨by (with_reducible repeat (first|apply Kd.N_alloc|apply Kd.N_drewN|apply Kd.N_drew));exact Kd.N_mono HO_3.out (fun _ hk=>⟨hk.1.1,⟨hk.1.2.1,hk.2⟩⟩)⟩,⟨by (with_reducible repeat (first|apply Kd.R_alloc|apply Kd.R_drewN|apply Kd.R_drew));exact Kd.R_mono HO_4.out (fun _ hk=>hk.2)⟩,⟨by (with_reducible repeat (first|apply Kd.R_alloc|apply Kd.R_drewN|apply Kd.R_drew));exact HO_5.out⟩,⟨by (with_reducible repeat (first|apply Kd.R_alloc|apply Kd.R_drewN|apply Kd.R_drew));exact Kd.R_mono HO843.out (fun _ hk=>hk.1.2)⟩,⟨by repeat (first|(with_reducible first|exact HB.out|apply below_alloc|apply pw_below_drewN|apply below_drew1)|exact HB.out)⟩⟩
          ·rw [if_neg c36] at H
           have c36b0:(t844 == (rd t820 x9_2))=false:=beq_eq_false_iff_ne.mpr c36
           have c36b1:(t844 != (rd t820 x9_2))=true:=bne_iff_ne.mpr c36
           obtain rfl:=Option.some.inj H
           have p840 : 0 ≤ (x9_2:Int):=of_decide_eq_true (by first|(with_reducible assumption)|assumption)
           have q840:x9_2 < (t816.length:Int):=of_decide_eq_true (by first|(with_reducible assumption)|assumption)
           obtain ⟨ad840,A840_5,c840_5,e840,hx840_0,hx840_1,hx840_2,hx840_3,hx840_4,hx840_5,hl840_5,hi840_5⟩:=at_T34 (Kd.N_reads' HO_3.out).2.2 x9_2 p840 q840
           cases e840
           obtain ⟨ce840,hce840,hMe840,hcc840⟩:=Kd.N_get HO_3.out z34 x9_2 p840 (by first|exact q840|exact of_decide_eq_true (by first|(with_reducible assumption)|assumption)|(have e_:=(Kd.N_reads' HO_3.out).1;omega))
           obtain ⟨ua840_5,uc840_5,rfl,ul840_5,ge840_5⟩:=k34_openF hMe840
           have hv840_5:=hcc840 5 _ rfl
           rw [add_field _ _ 5 (by omega)] at hv840_5
           replace hv840_5:=Option.some.inj (hv840_5.symm.trans hx840_5)
           injection hv840_5 with hva_ hvn_ hvc_
           rw [hva_] at ge840_5
           rw [hvc_] at ul840_5
           have HL840_5:=Aside0.mk (show Kd.V k79 79 _ w.heap.size _ _ ((rd_T34 t816 x9_2).f5) from Kd.V_mk ul840_5 ge840_5)
           clear hva_ hvn_ hvc_ ge840_5 ul840_5
           clear hcc840 hce840
           have HR840_5:=Aside0.mk hi840_5
           have HC840_5:=Aside0.mk hl840_5
           clear hi840_5 hl840_5
           replace p840:=eq_true p840
           replace q840:=eq_true q840
           obtain ⟨Ao44,co44,eo44⟩:=Kd.R_slice HO_8.out
           subst eo44
           go_wp2_with (first|((with_reducible refine gate_callee (f:=29) rfl ?_);refine goesL_ (some 58) rfl rfl Try.func29 (by kernel_rfl) rfl #[.slice Ao44 x8_2.length co44,.agg #[.bool ((rd_T34 t816 x9_2).f0),.bool ((rd_T34 t816 x9_2).f1),.int .i64 ((rd_T34 t816 x9_2).f2),.int .i64 ((rd_T34 t816 x9_2).f3),.int .i64 ((rd_T34 t816 x9_2).f4),.slice A840_5 ((rd_T34 t816 x9_2).f5).length c840_5]] rfl (by (try simp only [map_toArray,map_cons,map_nil]);first|done|rfl|(simp only [length_drop,length_take];rfl)) ?_;(with_reducible refine (impl_ProducersPut.calls k2 _ _ x8_2 ((rd_T34 t816 x9_2).f0) ((rd_T34 t816 x9_2).f1) ((rd_T34 t816 x9_2).f2) ((rd_T34 t816 x9_2).f3) ((rd_T34 t816 x9_2).f4) _ _ ((rd_T34 t816 x9_2).f5) t841 t844 _ ?side1 ?side2 ?side3 ?side4 A34.out).mono ?_);(case side1=>repeat (first|exact (Kd.R_reads' HO_8.out).2.2|(with_reducible refine Kd.C_alloc ?_ _)|(with_reducible refine Kd.C_drewN ?_ _)|(with_reducible refine Kd.C_drew ?_)));(case side2=>exact (Kd.R_reads' HO_8.out).2.1);(case side3=>repeat (first|exact (by repeat (first|(with_reducible exact HR840_5.out)|(with_reducible refine Kd.C_alloc ?_ _)|(with_reducible refine Kd.C_drewN ?_ _)|(with_reducible refine Kd.C_drew ?_)|exact HR840_5.out))|(with_reducible refine Kd.C_alloc ?_ _)|(with_reducible refine Kd.C_drewN ?_ _)|(with_reducible refine Kd.C_drew ?_)));(case side4=>exact HC840_5.out);rintro e w45 ⟨v842,rfl,ho0,hb⟩;refine ⟨_,rfl,?_⟩;have n0_:=Aside0.mk (Kd.N_elder' (by (with_reducible repeat (first|apply Kd.N_alloc|apply Kd.N_drewN|apply Kd.N_drew));exact HO_3.out) (Kd.R_base ho0) hb);have n1_:=Aside0.mk (Kd.R_elder' (by (with_reducible repeat (first|apply Kd.R_alloc|apply Kd.R_drewN|apply Kd.R_drew));exact HO_4.out) (Kd.R_base ho0) hb);have n2_:=Aside0.mk (Kd.R_below (by (with_reducible repeat (first|apply Kd.R_alloc|apply Kd.R_drewN|apply Kd.R_drew));exact HO_5.out) hb);have n3_:=Aside0.mk (Kd.R_elder' (by (with_reducible repeat (first|apply Kd.R_alloc|apply Kd.R_drewN|apply Kd.R_drew));exact HO_8.out) (Kd.R_base ho0) hb);have n4_:=Aside0.mk (Kd.V_elder' (by (with_reducible repeat (first|apply Kd.V_alloc|apply Kd.V_drewN|apply Kd.V_drew));exact HL840_5.out) (Kd.R_base ho0) hb);have n5_:=Aside0.mk (Kd.R_lower (Kd.R_new' (Kd.R_new' ho0 (Kd.R_lt (by (with_reducible repeat (first|apply Kd.R_alloc|apply Kd.R_drewN|apply Kd.R_drew));exact HO_4.out))) (Kd.R_lt (by (with_reducible repeat (first|apply Kd.R_alloc|apply Kd.R_drewN|apply Kd.R_drew));exact HO_8.out))) (below_size (by repeat (first|(with_reducible first|exact HB.out|apply below_alloc|apply pw_below_drewN|apply below_drew1)|exact HB.out))));have n6_:=Aside0.mk (Kd.C_below (by repeat (first|(with_reducible exact HR840_5.out)|(with_reducible refine Kd.C_alloc ?_ _)|(with_reducible refine Kd.C_drewN ?_ _)|(with_reducible refine Kd.C_drew ?_)|exact HR840_5.out)) hb);have n7_:=Aside0.mk (below_step (by repeat (first|(with_reducible first|exact HB.out|apply below_alloc|apply pw_below_drewN|apply below_drew1)|exact HB.out)) hb);clear HO_3 HO_4 HO_5 HO_8 HL840_5 HR840_5 HB;have HO_3:=n0_;have HO_4:=n1_;have HO_5:=n2_;have HO_8:=n3_;have HL840_5:=n4_;have HO843:=n5_;have HR840_5:=n6_;have HB:=n7_;clear n0_ n1_ n2_ n3_ n4_ n5_ n6_ n7_;(try clear hb);(try clear hb2);(try clear hk);(try clear hi);(try clear ho0);obtain ⟨Ao46,co46,eo46⟩:=Kd.R_slice HO_5.out;subst eo46;have p845 : 0 ≤ (x9_2:Int):=of_decide_eq_true (by first|(with_reducible assumption)|assumption);have q845:x9_2 < (t820.length:Int):=of_decide_eq_true (by first|(with_reducible assumption)|assumption);obtain ⟨ad845,e845,hx845_0⟩:=Kd.at_int (Kd.R_reads' HO_5.out).2.2 x9_2 p845 q845;cases e845;replace p845:=eq_true p845;replace q845:=eq_true q845))
           go_ret
           exact ⟨by first|rfl|(simp [errW_none,errW_some] <;> rfl)|(simp [*,errW_none,errW_some] <;> rfl),by repeat (first|(with_reducible first|exact HB.out|apply below_alloc|apply pw_below_drewN|apply below_drew1)|exact HB.out)⟩
         ·rw [if_neg c35] at H
          exact absurd H (by simp)
        ·rw [if_neg c33] at H
         exact absurd H (by simp)
       ·rw [if_neg c32] at H
        have c32b0:decide (x9_2 < (t816.length:Int))=false:=decide_eq_false c32
        clear c32
        by_cases c47:(t820.length:Int)=(t816.length:Int)
        ·rw [if_pos c47] at H
         have c47b0:((t820.length:Int) == (t816.length:Int))=true:=beq_iff_eq.mpr c47
         have c47b1:((t820.length:Int) != (t816.length:Int))=false:=bne_eq_false_iff_eq.mpr c47
         have c47b2:(t820.length == t816.length)=true:=by first|simpa using c47|(simp at c47 ⊢;omega)
         clear c47
         replace H:=Option.bind_eq_some_iff.mp H
         obtain ⟨t838,A480,H⟩:=H
         replace H:(if t838=true then ((impl_ProducersValid.f k2 t819).bind fun t839=>(some t839)) else (some false))=some r:=H
         have A48:=Aside0.mk A480
         clear A480
         by_cases c49:t838=true
         ·subst c49
          have H1:((impl_ProducersValid.f k2 t819).bind fun t839=>(some t839))=some r:=by rw [if_pos rfl] at H;exact H
          clear H
          have H:=H1
          clear H1
          replace H:=Option.bind_eq_some_iff.mp H
          obtain ⟨t839,A500,H⟩:=H
          replace H:(some t839)=some r:=H
          have A50:=Aside0.mk A500
          clear A500
          obtain rfl:=Option.some.inj H
          obtain ⟨Ao51,co51,eo51⟩:=Kd.R_slice HO_5.out
          subst eo51
          obtain ⟨Ao52,co52,eo52⟩:=Kd.R_slice HO_8.out
          subst eo52
          obtain ⟨Ao53,co53,eo53⟩:=Kd.R_slice HO_4.out
          subst eo53
          go_wp2_with (first|(go_at_call 31;(with_reducible refine (laws_sameProducers.calls k2 _ _ x8_2 _ _ t819 true _ ?side1 ?side2 ?side3 ?side4 A48.out).mono ?_);(case side1=>repeat (first|exact (Kd.R_reads' HO_8.out).2.2|(with_reducible refine Kd.C_alloc ?_ _)|(with_reducible refine Kd.C_drewN ?_ _)|(with_reducible refine Kd.C_drew ?_)));(case side2=>exact (Kd.R_reads' HO_8.out).2.1);(case side3=>repeat (first|exact (Kd.R_reads' HO_4.out).2.2|(with_reducible refine Kd.C_alloc ?_ _)|(with_reducible refine Kd.C_drewN ?_ _)|(with_reducible refine Kd.C_drew ?_)));(case side4=>exact (Kd.R_reads' HO_4.out).2.1);rintro e w' ⟨rfl,⟨nd,rfl⟩⟩)|(go_at_call 19;(with_reducible refine (impl_ProducersValid.calls k2 _ _ t819 t839 _ ?side1 ?side2 A50.out).mono ?_);(case side1=>repeat (first|exact (Kd.R_reads' HO_4.out).2.2|(with_reducible refine Kd.C_alloc ?_ _)|(with_reducible refine Kd.C_drewN ?_ _)|(with_reducible refine Kd.C_drew ?_)));(case side2=>exact (Kd.R_reads' HO_4.out).2.1);rintro e w54 ⟨rfl,hb⟩;have n0_:=Aside0.mk (Kd.N_below (by (with_reducible repeat (first|apply Kd.N_alloc|apply Kd.N_drewN|apply Kd.N_drew));exact HO_3.out) hb);have n1_:=Aside0.mk (Kd.R_below (by (with_reducible repeat (first|apply Kd.R_alloc|apply Kd.R_drewN|apply Kd.R_drew));exact HO_4.out) hb);have n2_:=Aside0.mk (Kd.R_below (by (with_reducible repeat (first|apply Kd.R_alloc|apply Kd.R_drewN|apply Kd.R_drew));exact HO_5.out) hb);have n3_:=Aside0.mk (Kd.R_below (by (with_reducible repeat (first|apply Kd.R_alloc|apply Kd.R_drewN|apply Kd.R_drew));exact HO_8.out) hb);have n4_:=Aside0.mk (below_step (by repeat (first|(with_reducible first|exact HB.out|apply below_alloc|apply pw_below_drewN|apply below_drew1)|exact HB.out)) hb);clear HO_3 HO_4 HO_5 HO_8 HB;have HO_3:=n0_;have HO_4:=n1_;have HO_5:=n2_;have HO_8:=n3_;have HB:=n4_;clear n0_ n1_ n2_ n3_ n4_;(try clear hb);(try clear hb2);(try clear hk);(try clear hi)))
          go_ret
          exact ⟨by first|rfl|(simp [errW_none,errW_some] <;> rfl)|(simp [*,errW_none,errW_some] <;> rfl),by repeat (first|(with_reducible first|exact HB.out|apply below_alloc|apply pw_below_drewN|apply below_drew1)|exact HB.out)⟩
         ·replace c49:=Bool.eq_false_iff.mpr c49
          subst c49
          have H1:(some false)=some r:=by rw [if_neg (show ¬ (false=true) by decide)] at H;exact H
          clear H
          have H:=H1
          clear H1
          obtain rfl:=Option.some.inj H
          obtain ⟨Ao55,co55,eo55⟩:=Kd.R_slice HO_5.out
          subst eo55
          obtain ⟨Ao56,co56,eo56⟩:=Kd.R_slice HO_8.out
          subst eo56
          obtain ⟨Ao57,co57,eo57⟩:=Kd.R_slice HO_4.out
          subst eo57
          go_wp2_with (first|(go_at_call 31;(with_reducible refine (laws_sameProducers.calls k2 _ _ x8_2 _ _ t819 false _ ?side1 ?side2 ?side3 ?side4 A48.out).mono ?_);(case side1=>repeat (first|exact (Kd.R_reads' HO_8.out).2.2|(with_reducible refine Kd.C_alloc ?_ _)|(with_reducible refine Kd.C_drewN ?_ _)|(with_reducible refine Kd.C_drew ?_)));(case side2=>exact (Kd.R_reads' HO_8.out).2.1);(case side3=>repeat (first|exact (Kd.R_reads' HO_4.out).2.2|(with_reducible refine Kd.C_alloc ?_ _)|(with_reducible refine Kd.C_drewN ?_ _)|(with_reducible refine Kd.C_drew ?_)));(case side4=>exact (Kd.R_reads' HO_4.out).2.1);rintro e w' ⟨rfl,⟨nd,rfl⟩⟩))
          go_ret
          exact ⟨by first|rfl|(simp [errW_none,errW_some] <;> rfl)|(simp [*,errW_none,errW_some] <;> rfl),by repeat (first|(with_reducible first|exact HB.out|apply below_alloc|apply pw_below_drewN|apply below_drew1)|exact HB.out)⟩
        ·rw [if_neg c47] at H
         have c47b0:((t820.length:Int) == (t816.length:Int))=false:=beq_eq_false_iff_ne.mpr c47
         have c47b1:((t820.length:Int) != (t816.length:Int))=true:=bne_iff_ne.mpr c47
         have c47b2:(t820.length == t816.length)=false:=by first|simpa using c47|(simp at c47 ⊢;omega)
         obtain rfl:=Option.some.inj H
         obtain ⟨Ao58,co58,eo58⟩:=Kd.R_slice HO_5.out
         subst eo58
         go_wp2
         go_ret
         exact ⟨by first|rfl|(simp [errW_none,errW_some] <;> rfl)|(simp [*,errW_none,errW_some] <;> rfl),by repeat (first|(with_reducible first|exact HB.out|apply below_alloc|apply pw_below_drewN|apply below_drew1)|exact HB.out)⟩
def laws_FnRunProducers.Pure:Prop:=∀ (l0:List Int),l0.length ≤ maxLen→l0.length * 1 ≤ 140737488351232→(∀ x ∈ l0,(Lit.int .u8 x).wf=true)→∃ k,laws_FnRunProducers.f k l0=some true
theorem laws_FnRunProducers.walk (P:laws_FnRunProducers.Pure) (a0:Option Addr) (len0 cap0:Nat) (z0:List Int) (w:World) (w0:(a0=none∧len0=0∧cap0=0∧z0 = [])∨∃ x,a0=some x∧len0 ≤ cap0∧cap0 ≤ maxLen∧z0.length=cap0∧(∀ i,i < z0.length→w.cell? (x.add i)=some (.int .u8 (z0.getD i 0)))∧∀ n ∈ z0,(Lit.int .u8 n).wf=true) (y0:len0 * 1 ≤ 140737488351232) :
  Calls Try.prog 14 #[.slice a0 len0 cap0] w fun e w'=>e = .returned (.bool true)∧Below w.heap.size w w':=by
 obtain ⟨l0,rfl,hr0,hm0,hw0,hc0⟩:=ReadsInt.ofRowC w0
 obtain ⟨k,h⟩:=P l0 hm0 y0 hw0
 refine (laws_FnRunProducers.calls k _ _ l0 true w (Kd.C_of_reads (d:=(0:Int)) (h1:=fun _=>rfl) hr0) hc0 h).mono ?_
 rintro e w' ⟨rfl,hd⟩
 exact ⟨rfl,hd⟩
end Go.Proofs.Ytkhmopmfbocokaa.T
namespace Go.Proofs.Ytkhmopmfbocokaa.Q
open Go.RowKit Go.Proofs.YtkhmopmfbocokaaW.PrintWords
set_option linter.unusedVariables false
set_option linter.unusedSimpArgs false
theorem ev_succ {α:Type} {g:Nat→Option α} {r : α} (h:Ev (fun k=>g (k+1)) r):Ev g r:=Ev.step (f:=fun k=>g (k+1)) (fun _=>rfl) h
theorem ev_of_all {α:Type} {g:Nat→Option α} {r : α} (h:∀ k,g k=some r):Ev g r:=⟨0,fun k _=>h k⟩
theorem ev_some {α:Type} (r : α):Ev (fun _=>some r) r:=ev_of_all fun _=>rfl
def Evs {α:Type} (g:Nat→Option α) (Q : α→Prop):Prop:=∃ r,Ev g r∧Q r
theorem Evs.of {α:Type} {g:Nat→Option α} {Q : α→Prop} {r : α} (h:Ev g r) (hq:Q r):Evs g Q:=⟨r,h,hq⟩
theorem Evs.done {α:Type} {Q : α→Prop} {r : α} (hq:Q r):Evs (fun _=>some r) Q:=⟨r,ev_some r,hq⟩
theorem Evs.mono {α:Type} {g:Nat→Option α} {Q Q' : α→Prop} (h:Evs g Q) (hq:∀ r,Q r→Q' r):Evs g Q':=by
 obtain ⟨r,h1,h2⟩:=h
 exact ⟨r,h1,hq r h2⟩
theorem Evs.succ {α:Type} {g:Nat→Option α} {Q : α→Prop} (h:Evs (fun k=>g (k+1)) Q):Evs g Q:=by
 obtain ⟨r,h1,h2⟩:=h
 exact ⟨r,ev_succ h1,h2⟩
theorem Evs.bind {α β:Type} {g:Nat→Option α} {f:Nat→α→Option β} {Q : α→Prop} {R : β→Prop} (h:Evs g Q) (k:∀ a,Q a→Evs (fun n=>f n a) R):Evs (fun n=>(g n).bind (f n)) R:=by
 obtain ⟨a,h1,h2⟩:=h
 obtain ⟨r,k1,k2⟩:=k a h2
 exact ⟨r,Ev.bind h1 k1,k2⟩
theorem bsome {α β:Type} (a : α) (f : α→Option β):(some a).bind f=f a:=Eq.trans (Option.bind_some a f) (Eq.refl _)
end Go.Proofs.Ytkhmopmfbocokaa.Q
namespace Go.Proofs.Ytkhmopmfbocokaa.Q
open Go.RowKit Go.Proofs.Ytkhmopmfbocokaa.T Go.Proofs.YtkhmopmfbocokaaW.PrintWords Go.Proofs.YtkhmopmfbocokaaW.PrintLast
set_option linter.unusedVariables false
set_option linter.unusedSimpArgs false
theorem wrap_id {x:Int} (h0 : -9223372036854775808 ≤ x) (h1:x < 9223372036854775808):wrap64 x=x:=by unfold wrap64;omega
theorem tmod_range {x n:Int} (h : 0 ≤ x) (hn : 1 ≤ n) : 0 ≤ Int.tmod x n∧Int.tmod x n < n:=by
 rw [Int.tmod_eq_emod_of_nonneg h]
 exact ⟨Int.emod_nonneg _ (by omega),Int.emod_lt_of_pos _ (by omega)⟩
theorem xor_nonneg {a b:Int} (h1 : 0 ≤ a) (h2:a < 4611686018427387904) (h3 : 0 ≤ b) (h4:b < 4611686018427387904) : 0 ≤ Go.bits .xor .i64 a b:=by
 obtain ⟨A,rfl⟩:=Int.eq_ofNat_of_zero_le h1
 obtain ⟨B,rfl⟩:=Int.eq_ofNat_of_zero_le h3
 have hx:A ^^^ B < 2 ^ 62:=Nat.xor_lt_two_pow (by omega) (by omega)
 have e1:(BitVec.ofInt 64 (A:Int)).toNat=A:=by
  rw [BitVec.ofInt_natCast,BitVec.toNat_ofNat];exact Nat.mod_eq_of_lt (by omega)
 have e2:(BitVec.ofInt 64 (B:Int)).toNat=B:=by
  rw [BitVec.ofInt_natCast,BitVec.toNat_ofNat];exact Nat.mod_eq_of_lt (by omega)
 show 0 ≤ IntKind.i64.wrap ((BitVec.ofInt 64 (A:Int) ^^^ BitVec.ofInt 64 (B:Int)).toNat:Int)
 rw [BitVec.toNat_xor,e1,e2]
 simp only [IntKind.wrap,IntKind.bits,IntKind.signed]
 simp
 omega
def Bytes (b:List Int):Prop:=∀ x ∈ b,0 ≤ x∧x ≤ 255
theorem rd_bytes {b:List Int} (h:Bytes b) (i:Int) : 0 ≤ rd b i∧rd b i ≤ 255:=by
 unfold rd
 rw [List.getD_eq_getElem?_getD]
 cases e:b[i.toNat]? with
 | none=>simp
 | some x=>exact h x (List.mem_of_getElem? e)
theorem pick_ev (b:List Int) (p n:Int) (hb:Bytes b) (hl:b.length ≤ 2000) (h0 : 0 ≤ p) (h1:p ≤ 1000000000) (hn : 1 ≤ n) :
  ∃ v,Ev (fun k=>spec_l6Rd_pick.f k b p n) (v,p+1)∧0 ≤ v∧v < n:=by
 have e1:wrap64 (p+1)=p+1:=wrap_id (by omega) (by omega)
 have e2:wrap64 (p+1 - 1)=p:=by rw [wrap_id (by omega) (by omega)];omega
 by_cases hz:b.length=0
 ·refine ⟨0,⟨1,fun k hk=>?_⟩,by omega,by omega⟩
  obtain ⟨k,rfl⟩:∃ m,k=m+1:=⟨k - 1,by omega⟩
  show spec_l6Rd_pick.f (k+1) b p n = _
  unfold spec_l6Rd_pick.f
  rw [if_neg (by omega),e1]
  simp [spec_l6Rd_pick.j0,hz]
 ·have hz' : (((b.length:Int) == 0)=true)=False:=by simp;intro h;simp [h] at hz
  by_cases hlt:p < (b.length:Int)
  ·obtain ⟨r0,r1⟩:=rd_bytes hb p
   have:=tmod_range (x:=rd b p) r0 hn
   refine ⟨Int.tmod (rd b p) n,⟨1,fun k hk=>?_⟩,this.1,this.2⟩
   obtain ⟨k,rfl⟩:∃ m,k=m+1:=⟨k - 1,by omega⟩
   show spec_l6Rd_pick.f (k+1) b p n = _
   unfold spec_l6Rd_pick.f
   rw [if_neg (by omega),e1]
   simp only [spec_l6Rd_pick.j0,e2,hz']
   rw [if_neg (by simp),if_pos hlt,if_pos h0,if_neg (by omega),wrap_id (by omega) (by omega)]
  ·obtain ⟨q0,q1⟩:=tmod_range (x:=p) (n:=(b.length:Int)) h0 (by omega)
   obtain ⟨r0,r1⟩:=rd_bytes hb (Int.tmod p (b.length:Int))
   have f1:wrap64 (p * 7)=p * 7:=wrap_id (by omega) (by omega)
   have f2:wrap64 (p * 7+3)=p * 7+3:=wrap_id (by omega) (by omega)
   obtain ⟨q2,q3⟩:=tmod_range (x:=p * 7+3) (n:=(b.length:Int)) (by omega) (by omega)
   obtain ⟨r2,r3⟩:=rd_bytes hb (Int.tmod (p * 7+3) (b.length:Int))
   have d0 : 0 ≤ Int.tdiv p (b.length:Int)∧Int.tdiv p (b.length:Int) ≤ p:=by
    rw [Int.tdiv_eq_ediv_of_nonneg h0]
    exact ⟨Int.ediv_nonneg h0 (by omega),Int.ediv_le_self _ h0⟩
   obtain ⟨x,hx⟩:∃ x,x=rd b (Int.tmod p (b.length:Int)):=⟨_,rfl⟩
   obtain ⟨y,hy⟩:∃ y,y=rd b (Int.tmod (p * 7+3) (b.length:Int)):=⟨_,rfl⟩
   obtain ⟨z,hz2⟩:∃ z,z=Int.tdiv p (b.length:Int):=⟨_,rfl⟩
   obtain ⟨s,hs⟩:∃ s,s=x * 131+y * 1117+p * 29+z * 53:=⟨_,rfl⟩
   rw [← hx] at r0 r1
   rw [← hy] at r2 r3
   rw [← hz2] at d0
   have s0 : 0 ≤ s∧s < 4611686018427387904:=by omega
   have t0 : 0 ≤ Int.tdiv s 64∧Int.tdiv s 64 ≤ s:=by
    rw [Int.tdiv_eq_ediv_of_nonneg s0.1]
    exact ⟨Int.ediv_nonneg s0.1 (by omega),Int.ediv_le_self _ s0.1⟩
   have w1:wrap64 x=x:=wrap_id (by omega) (by omega)
   have w2:wrap64 y=y:=wrap_id (by omega) (by omega)
   have w3:wrap64 z=z:=wrap_id (by omega) (by omega)
   have w4:wrap64 (x * 131)=x * 131:=wrap_id (by omega) (by omega)
   have w5:wrap64 (y * 1117)=y * 1117:=wrap_id (by omega) (by omega)
   have w6:wrap64 (p * 29)=p * 29:=wrap_id (by omega) (by omega)
   have w7:wrap64 (z * 53)=z * 53:=wrap_id (by omega) (by omega)
   have w8:wrap64 (x * 131+y * 1117)=x * 131+y * 1117:=wrap_id (by omega) (by omega)
   have w9:wrap64 (x * 131+y * 1117+p * 29)=x * 131+y * 1117+p * 29:=wrap_id (by omega) (by omega)
   have wa:wrap64 (x * 131+y * 1117+p * 29+z * 53)=s:=by rw [hs];exact wrap_id (by omega) (by omega)
   have wb:wrap64 (Int.tdiv s 64)=Int.tdiv s 64:=wrap_id (by omega) (by omega)
   have:=tmod_range (x:=Go.bits .xor .i64 s (Int.tdiv s 64)) (n:=n) (xor_nonneg s0.1 s0.2 t0.1 (by omega)) hn
   refine ⟨_,⟨1,fun k hk=>?_⟩,this.1,this.2⟩
   obtain ⟨k,rfl⟩:∃ m,k=m+1:=⟨k - 1,by omega⟩
   show spec_l6Rd_pick.f (k+1) b p n = _
   unfold spec_l6Rd_pick.f
   rw [if_neg (by omega),e1]
   simp only [spec_l6Rd_pick.j0,e2,hz',f1,f2]
   rw [if_neg (by simp),if_neg hlt,if_neg (by omega),if_pos q0,if_pos q1,if_pos q2,if_pos q3,if_neg (by omega),← hx,← hy,← hz2,w1,w2,w3,w4,w5,w6,w7,w8,w9,wa,wb]
theorem pick_evs (b:List Int) (p n:Int) (hb:Bytes b) (hl:b.length ≤ 2000) (h0 : 0 ≤ p) (h1:p ≤ 1000000000) (hn : 1 ≤ n) :
  Evs (fun k=>spec_l6Rd_pick.f k b p n) (fun r=>0 ≤ r.1∧r.1 < n∧r.2=p+1):=by
 obtain ⟨v,h,v0,v1⟩:=pick_ev b p n hb hl h0 h1 hn
 exact ⟨_,h,v0,v1,rfl⟩
end Go.Proofs.Ytkhmopmfbocokaa.Q
namespace Go.Proofs.Ytkhmopmfbocokaa.Q
open Go.RowKit Go.Proofs.Ytkhmopmfbocokaa.T Go.Proofs.YtkhmopmfbocokaaW.PrintWords Go.Proofs.YtkhmopmfbocokaaW.PrintLast
set_option linter.unusedVariables false
set_option linter.unusedSimpArgs false
theorem impl_within_eq (a b c:Int):impl_within.f a b c=some (decide (b ≤ a∧a ≤ c)):=by
 unfold impl_within.f
 by_cases h:a ≥ b
 ·rw [if_pos h]
  have:(b ≤ a∧a ≤ c)↔a ≤ c:=⟨fun h=>h.2,fun h'=>⟨h,h'⟩⟩
  simp [this]
 ·rw [if_neg h]
  have:¬ (b ≤ a∧a ≤ c):=fun h'=>h h'.1
  simp [this]
theorem spec_l6In_eq (a b c:Int):spec_l6In.f a b c=some (decide (b ≤ a∧a ≤ c)):=by
 unfold spec_l6In.f
 by_cases h:a ≥ b
 ·rw [if_pos h]
  have:(b ≤ a∧a ≤ c)↔a ≤ c:=⟨fun h=>h.2,fun h'=>⟨h,h'⟩⟩
  simp [this]
 ·rw [if_neg h]
  have:¬ (b ≤ a∧a ≤ c):=fun h'=>h h'.1
  simp [this]
end Go.Proofs.Ytkhmopmfbocokaa.Q
namespace Go.Proofs.Ytkhmopmfbocokaa.Q
set_option linter.unusedVariables false
set_option linter.unusedSimpArgs false
theorem pairwise_of_next {α:Type} {R : α→α→Prop} (tr:∀ a b c,R a b→R b c→R a c) {l:List α} (h:∀ j (h:j+1 < l.length),R (l[j]'(by omega)) l[j+1]):l.Pairwise R:=by
 rw [List.pairwise_iff_getElem]
 intro i j hi hj hij
 obtain ⟨d,rfl⟩:∃ d,j=i+1+d:=⟨j - i - 1,by omega⟩
 clear hij
 induction d with
 | zero=>exact h i (by omega)
 | succ d ih=>exact tr _ _ _ (ih (by omega)) (h (i+1+d) (by omega))
theorem next_of_pairwise {α:Type} {R : α→α→Prop} {l:List α} (h:l.Pairwise R) (j:Nat) (hj:j+1 < l.length):R (l[j]'(by omega)) l[j+1]:=
 List.pairwise_iff_getElem.1 h j (j+1) (by omega) hj (by omega)
end Go.Proofs.Ytkhmopmfbocokaa.Q
namespace Go.Proofs.Ytkhmopmfbocokaa.Q
open Go.RowKit Go.Proofs.Ytkhmopmfbocokaa.T Go.Proofs.YtkhmopmfbocokaaW.PrintWords Go.Proofs.YtkhmopmfbocokaaW.PrintLast
set_option linter.unusedVariables false
set_option linter.unusedSimpArgs false
abbrev Pr:=S39
abbrev rp (l:List Pr) (i:Int):Pr:=rd_T39 l i
theorem rp_nat (l:List Pr) (j:Nat) (h:j < l.length):rp l (j:Int)=l[j]:=by
 unfold rp rd_T39
 rw [Int.toNat_natCast,List.getD_eq_getElem?_getD,List.getElem?_eq_getElem h]
 rfl
theorem Pr_ext {a b:Pr} (h0:a.f0=b.f0) (h1:a.f1=b.f1) (h2:a.f2=b.f2):a=b:=by
 cases a
 cases b
 simp at h0 h1 h2
 rw [h0,h1,h2]
instance:DecidableEq Pr:=fun a b=>decidable_of_iff (a.f0=b.f0∧a.f1=b.f1∧a.f2=b.f2) ⟨fun h=>Pr_ext h.1 h.2.1 h.2.2,fun h=>by rw [h];exact ⟨rfl,rfl,rfl⟩⟩
theorem drop_atP {l:List Pr} {i:Nat} (h:i < l.length):l.drop i=rp l i :: l.drop (i+1):=by
 rw [List.drop_eq_getElem_cons h,rp_nat l i h]
def okP (t:Pr):Prop:=(0 ≤ t.f0∧t.f0 ≤ 254)∧(0 ≤ t.f1∧t.f1 ≤ 99)∧(0 ≤ t.f2∧t.f2 ≤ 99999)
def ltP (a b:Pr):Prop:=a.f0 < b.f0
def PF (l:List Pr) (i:Nat):Prop:=∀ j,i ≤ j→j < l.length→okP (rp l j)∧(0 < j→ltP (rp l ((j:Int) - 1)) (rp l j))
def VP (l:List Pr):Prop:=l.length ≤ 20∧PF l 0
open Classical in
noncomputable def vp (l:List Pr):Bool:=decide (VP l)
theorem vp_iff (l:List Pr):vp l=true↔VP l:=by unfold vp;simp
theorem prodsAll_vp (l:List Pr):prodsAll l=vp l:=by
 rw [Bool.eq_iff_iff,vp_iff]
 unfold prodsAll VP PF
 rw [Bool.and_eq_true,decide_eq_true_eq,decide_eq_true_eq]
 refine ⟨fun h=>⟨h.1,fun j _ hj=>?_⟩,fun h=>⟨h.1,fun j hj=>?_⟩⟩
 ·have:=h.2 j hj
  unfold prodAt at this
  rw [decide_eq_true_eq] at this
  exact this
 ·unfold prodAt
  rw [decide_eq_true_eq]
  exact h.2 j (Nat.zero_le _) hj
theorem implPValid (l:List Pr) (hl:l.length ≤ 1000000000000):Ev (fun k=>impl_ProducersValid.f k l) (vp l):=by
 unfold impl_ProducersValid.f
 rw [prodsAll_vp]
 exact ev_some _
theorem specPValid (l:List Pr) (hl:l.length ≤ 1000000000000):Ev (fun k=>spec_ProducersValid.f k l) (vp l):=by
 unfold spec_ProducersValid.f
 rw [prodsAll_vp]
 exact ev_some _
theorem ltP_trans {a b c:Pr} (h:ltP a b) (h' : ltP b c):ltP a c:=Int.lt_trans h h'
theorem VP_iff (l:List Pr):VP l↔l.length ≤ 20∧(∀ t ∈ l,okP t)∧l.Pairwise ltP:=by
 constructor
 ·rintro ⟨h8,hv⟩
  refine ⟨h8,?_,pairwise_of_next (R:=ltP) (fun _ _ _=>ltP_trans) ?_⟩
  ·intro t ht
   obtain ⟨j,hj,rfl⟩:=List.getElem_of_mem ht
   have:=(hv j (Nat.zero_le _) hj).1
   rwa [rp_nat l j hj] at this
  ·intro j hj
   have:=(hv (j+1) (Nat.zero_le _) hj).2 (by omega)
   rw [rp_nat l (j+1) hj] at this
   rw [show ((j+1:Nat):Int) - 1=(j:Int) by omega,rp_nat l j (by omega)] at this
   exact this
 ·rintro ⟨h8,hok,hp⟩
  refine ⟨h8,fun j _ hj=>⟨?_,fun h0=>?_⟩⟩
  ·rw [rp_nat l j hj]
   exact hok _ (List.getElem_mem hj)
  ·obtain ⟨i,rfl⟩:∃ i,j=i+1:=⟨j - 1,by omega⟩
   rw [rp_nat l (i+1) hj,show ((i+1:Nat):Int) - 1=(i:Int) by omega,rp_nat l i (by omega)]
   exact next_of_pairwise hp i hj
end Go.Proofs.Ytkhmopmfbocokaa.Q
namespace Go.Proofs.Ytkhmopmfbocokaa.Q
open Go.RowKit Go.Proofs.Ytkhmopmfbocokaa.T Go.Proofs.YtkhmopmfbocokaaW.PrintWords Go.Proofs.YtkhmopmfbocokaaW.PrintLast
set_option linter.unusedVariables false
set_option linter.unusedSimpArgs false
theorem rd_nat (l:List Int) (j:Nat) (h:j < l.length):rd l (j:Int)=l[j]:=by
 unfold rd
 rw [Int.toNat_natCast,List.getD_eq_getElem?_getD,List.getElem?_eq_getElem h]
 rfl
theorem drop_int {l:List Int} {i:Nat} (h:i < l.length):l.drop i=rd l i :: l.drop (i+1):=by
 rw [List.drop_eq_getElem_cons h,rd_nat l i h]
def ab (l:List Int):Bool:=decide (∀ x ∈ l,0 ≤ x∧x ≤ 255)
theorem ab_cons (x:Int) (l:List Int):ab (x :: l)=(decide (0 ≤ x∧x ≤ 255) && ab l):=by
 rw [Bool.eq_iff_iff]
 simp [ab,List.forall_mem_cons]
theorem ab_nil:ab []=true:=by simp [ab]
theorem isByte_eq (a:Int):impl_isByte.f a=some (decide (0 ≤ a∧a ≤ 255)):=by
 unfold impl_isByte.f
 by_cases h:a ≥ 0
 ·rw [if_pos h]
  have:(0 ≤ a∧a ≤ 255)↔a ≤ 255:=⟨fun h=>h.2,fun h'=>⟨h,h'⟩⟩
  simp [this]
 ·rw [if_neg h]
  have:¬ (0 ≤ a∧a ≤ 255):=fun h'=>h h'.1
  simp [this]
theorem baseValid_eq (a b:Int):impl_baseValid.f a b=some (decide ((0 ≤ a∧a ≤ 99999)∧(0 ≤ b∧b ≤ 99999))):=by
 unfold impl_baseValid.f
 rw [impl_within_eq,impl_within_eq]
 by_cases h : 0 ≤ a∧a ≤ 99999 <;> simp [h]
theorem idValid_eqB (a:Int):impl_idValid.f a=some (decide (0 ≤ a∧a ≤ 254)):=by
 unfold impl_idValid.f
 rw [impl_within_eq]
 rfl
theorem implAll_loop (l:List Int) (hl:l.length ≤ 1000000000000000):∀ (d i:Nat),l.length - i=d→i ≤ l.length→Ev (fun k=>impl_allBytes.l0 k l (l.length:Int) (i:Int)) (ab (l.drop i)):=by
 intro d
 induction d with
 | zero=>
  intro i hd hi
  rw [show l.drop i = [] from List.drop_eq_nil_of_le (by omega),ab_nil]
  refine ev_succ ?_
  simp only [impl_allBytes.l0,if_neg (show ¬ (i:Int) < (l.length:Int) by omega)]
  exact ev_some _
 | succ d ih=>
  intro i hd hi
  have e1:wrap64 ((i:Int)+1)=((i+1:Nat):Int):=by rw [wrap_id (by omega) (by omega)];omega
  rw [drop_int (show i < l.length by omega),ab_cons]
  refine ev_succ ?_
  simp only [impl_allBytes.l0,if_pos (show (i:Int) < (l.length:Int) by omega),if_pos (show (0:Int) ≤ i by omega),isByte_eq,bsome,decide_eq_true_eq,e1]
  by_cases h : 0 ≤ rd l (i:Int)∧rd l (i:Int) ≤ 255
  ·simp only [if_pos h,decide_eq_true h,Bool.true_and]
   exact ih (i+1) (by omega) (by omega)
  ·simp only [if_neg h,decide_eq_false h,Bool.false_and]
   exact ev_some _
theorem implAll (l:List Int) (hl:l.length ≤ 1000000000000000):Ev (fun k=>impl_allBytes.f k l) (ab l):=by
 unfold impl_allBytes.f
 have:=implAll_loop l hl l.length 0 (by omega) (by omega)
 simpa using this
theorem specAll_loop (l:List Int) (hl:l.length ≤ 1000000000000000):∀ (d i:Nat),l.length - i=d→i ≤ l.length→Ev (fun k=>spec_l1Ok.l0 k l (i:Int)) (ab (l.drop i)):=by
 intro d
 induction d with
 | zero=>
  intro i hd hi
  rw [show l.drop i = [] from List.drop_eq_nil_of_le (by omega),ab_nil]
  refine ev_succ ?_
  simp only [spec_l1Ok.l0,if_neg (show ¬ (i:Int) < (l.length:Int) by omega)]
  exact ev_some _
 | succ d ih=>
  intro i hd hi
  have e1:wrap64 ((i:Int)+1)=((i+1:Nat):Int):=by rw [wrap_id (by omega) (by omega)];omega
  rw [drop_int (show i < l.length by omega),ab_cons]
  refine ev_succ ?_
  simp only [spec_l1Ok.l0,if_pos (show (i:Int) < (l.length:Int) by omega),if_pos (show (0:Int) ≤ i by omega),spec_l6In_eq,bsome,decide_eq_true_eq,e1]
  by_cases h : 0 ≤ rd l (i:Int)∧rd l (i:Int) ≤ 255
  ·simp only [if_pos h,decide_eq_true h,Bool.true_and]
   exact ih (i+1) (by omega) (by omega)
  ·simp only [if_neg h,decide_eq_false h,Bool.false_and]
   exact ev_some _
theorem specAll (l:List Int) (hl:l.length ≤ 1000000000000000):Ev (fun k=>spec_l1Ok.f k l) (ab l):=by
 unfold spec_l1Ok.f
 have:=specAll_loop l hl l.length 0 (by omega) (by omega)
 simpa using this
def pv (has:Bool) (l:List Int):Bool:=if has=true then decide (l.length ≤ 12) && ab l else decide (l.length=0)
theorem implPart (has:Bool) (l:List Int) (hl:l.length ≤ 1000000000000000):Ev (fun k=>impl_partValid.f k has l) (pv has l):=by
 unfold impl_partValid.f pv
 cases has with
 | true=>
  simp only [if_true]
  by_cases h:(l.length:Int) ≤ 12
  ·simp only [if_pos h,decide_eq_true (show l.length ≤ 12 by omega),Bool.true_and]
   exact Ev.bind (implAll l hl) (ev_some _)
  ·simp only [if_neg h,decide_eq_false (show ¬ l.length ≤ 12 by omega),Bool.false_and]
   exact ev_some _
 | false=>
  simp only [Bool.false_eq_true,if_false]
  rw [show ((l.length:Int) == 0)=decide (l.length=0) by rw [Bool.eq_iff_iff];simp]
  exact ev_some _
theorem specPart (has:Bool) (l:List Int) (hl:l.length ≤ 1000000000000000):Ev (fun k=>spec_l3Part.f k has l) (pv has l):=by
 unfold spec_l3Part.f pv
 cases has with
 | true=>
  simp only [if_true]
  refine Ev.bind (specAll l hl) ?_
  by_cases h:ab l=true
  ·simp only [if_pos h,h,Bool.and_true]
   rw [show decide ((l.length:Int) ≤ 12)=decide (l.length ≤ 12) by rw [decide_eq_decide];omega]
   exact ev_some _
  ·simp only [if_neg h,show ab l=false by simpa using h,Bool.and_false]
   exact ev_some _
 | false=>
  simp only [Bool.false_eq_true,if_false]
  by_cases h:l.length=0
  ·simp only [if_pos (show (l.length:Int)=0 by omega),decide_eq_true h]
   refine Ev.bind (specAll l hl) ?_
   have hn:l = []:=List.length_eq_zero_iff.1 h
   subst hn
   simp only [ab_nil,if_true]
   exact ev_some _
  ·simp only [if_neg (show ¬ (l.length:Int)=0 by omega),decide_eq_false h]
   exact ev_some _
abbrev Rc:=S79
abbrev rr (l:List Rc) (i:Int):Rc:=rd_T79 l i
theorem rr_nat (l:List Rc) (j:Nat) (h:j < l.length):rr l (j:Int)=l[j]:=by
 unfold rr rd_T79
 rw [Int.toNat_natCast,List.getD_eq_getElem?_getD,List.getElem?_eq_getElem h]
 rfl
def smallR (r:Rc):Prop:=r.f3.length ≤ 1000000000000000∧r.f5.length ≤ 1000000000000000
def smallRs (l:List Rc):Prop:=l.length ≤ 1000000000000000∧∀ r ∈ l,smallR r
theorem smallRs_at {l:List Rc} (h:smallRs l) (j:Nat) (hj:j < l.length):smallR (rr l (j:Int)):=by
 rw [rr_nat l j hj]
 exact h.2 _ (List.getElem_mem hj)
def rv (r:Rc):Bool:=decide ((0 ≤ r.f0∧r.f0 ≤ 99999)∧(0 ≤ r.f1∧r.f1 ≤ 99999)) && (pv r.f2 r.f3 && pv r.f4 r.f5)
theorem implRec (r:Rc) (h:smallR r):Ev (fun k=>impl_RecordValid.f k r.f0 r.f1 r.f2 r.f3 r.f4 r.f5) (rv r):=by
 unfold impl_RecordValid.f rv
 simp only [baseValid_eq,bsome,decide_eq_true_eq]
 by_cases h0:(0 ≤ r.f0∧r.f0 ≤ 99999)∧(0 ≤ r.f1∧r.f1 ≤ 99999)
 ·simp only [if_pos h0,decide_eq_true h0,Bool.true_and]
  refine Ev.bind (implPart _ _ h.1) ?_
  by_cases h1:pv r.f2 r.f3=true
  ·simp only [if_pos h1,h1,Bool.true_and]
   exact Ev.bind (implPart _ _ h.2) (ev_some _)
  ·simp only [if_neg h1,show pv r.f2 r.f3=false by simpa using h1,Bool.false_and]
   exact ev_some _
 ·simp only [if_neg h0,decide_eq_false h0,Bool.false_and]
  exact ev_some _
theorem specRec (r:Rc) (h:smallR r):Ev (fun k=>spec_RecordValid.f k r.f0 r.f1 r.f2 r.f3 r.f4 r.f5) (rv r):=by
 unfold spec_RecordValid.f rv
 simp only [spec_l6In_eq,bsome,decide_eq_true_eq]
 by_cases h0 : 0 ≤ r.f0∧r.f0 ≤ 99999
 ·by_cases h1 : 0 ≤ r.f1∧r.f1 ≤ 99999
  ·simp only [if_pos h0,if_pos h1,decide_eq_true (show (0 ≤ r.f0∧r.f0 ≤ 99999)∧(0 ≤ r.f1∧r.f1 ≤ 99999) from ⟨h0,h1⟩),Bool.true_and]
   refine Ev.bind (specPart _ _ h.1) ?_
   by_cases h2:pv r.f2 r.f3=true
   ·simp only [if_pos h2,h2,Bool.true_and]
    exact Ev.bind (specPart _ _ h.2) (ev_some _)
   ·simp only [if_neg h2,show pv r.f2 r.f3=false by simpa using h2,Bool.false_and]
    exact ev_some _
  ·simp only [if_pos h0,if_neg h1,decide_eq_false (show ¬ ((0 ≤ r.f0∧r.f0 ≤ 99999)∧(0 ≤ r.f1∧r.f1 ≤ 99999)) from fun h=>h1 h.2),Bool.false_and]
   exact ev_some _
 ·simp only [if_neg h0,decide_eq_false (show ¬ ((0 ≤ r.f0∧r.f0 ≤ 99999)∧(0 ≤ r.f1∧r.f1 ≤ 99999)) from fun h=>h0 h.1),Bool.false_and]
  exact ev_some _
def RF (l:List Rc) (i:Nat):Prop:=∀ j,i ≤ j→j < l.length→rv (rr l j)=true∧(0 < j→(rr l ((j:Int) - 1)).f0 < (rr l j).f0)
theorem RF_end {l:List Rc} {i:Nat} (h:l.length ≤ i):RF l i:=fun j h1 h2=>by omega
theorem RF_step {l:List Rc} {i:Nat} (h:i < l.length):RF l i↔(rv (rr l i)=true∧(0 < i→(rr l ((i:Int) - 1)).f0 < (rr l i).f0))∧RF l (i+1):=by
 constructor
 ·intro hv
  exact ⟨hv i (Nat.le_refl _) h,fun j h1 h2=>hv j (by omega) h2⟩
 ·rintro ⟨h1,h2⟩ j h3 h4
  by_cases e:j=i
  ·subst e;exact h1
  ·exact h2 j (by omega) h4
theorem implRecs_loop (l:List Rc) (hl:smallRs l) (a0 a1:Bool) (a2 a3 a4:Int):∀ (d i:Nat),l.length - i=d→i ≤ l.length→Evs (fun k=>impl_BatchValid.l0 k l (l.length:Int) (i:Int) a0 a1 a2 a3 a4 l) (fun b=>b=true↔RF l i):=by
 intro d
 induction d with
 | zero=>
  intro i hd hi
  refine Evs.succ ?_
  simp only [impl_BatchValid.l0,if_neg (show ¬ (i:Int) < (l.length:Int) by omega)]
  exact Evs.done (by simp;exact RF_end (by omega))
 | succ d ih=>
  intro i hd hi
  have hll:=hl.1
  have hn:=ih (i+1) (by omega) (by omega)
  have e1:wrap64 ((i:Int)+1)=((i+1:Nat):Int):=by rw [wrap_id (by omega) (by omega)];omega
  have e2:wrap64 ((i:Int) - 1)=(i:Int) - 1:=wrap_id (by omega) (by omega)
  rw [RF_step (show i < l.length by omega)]
  refine Evs.succ ?_
  simp only [impl_BatchValid.l0,if_pos (show (i:Int) < (l.length:Int) by omega),if_pos (show (0:Int) ≤ i by omega),e1,e2]
  refine Evs.bind (Evs.of (implRec (rr l (i:Int)) (smallRs_at hl i (by omega))) rfl:Evs _ (fun x=>x=rv (rr l (i:Int)))) ?_
  rintro _ rfl
  by_cases h1:rv (rr l (i:Int))=true
  ·simp only [if_pos h1]
   by_cases h0:(i:Int) > 0
   ·simp only [if_pos h0,if_pos (show 0 ≤ (i:Int) - 1 by omega),if_pos (show (i:Int) - 1 < (l.length:Int) by omega)]
    by_cases h2:(rr l ((i:Int) - 1)).f0 ≥ (rr l (i:Int)).f0
    ·simp only [if_pos h2]
     refine Evs.done ?_
     simp only [Bool.false_eq_true,false_iff]
     rintro ⟨⟨_,h3⟩,_⟩
     have:=h3 (by omega)
     omega
    ·simp only [if_neg h2]
     refine hn.mono fun b hb=>?_
     rw [hb]
     exact ⟨fun h=>⟨⟨h1,fun _=>by omega⟩,h⟩,fun h=>h.2⟩
   ·simp only [if_neg h0]
    refine hn.mono fun b hb=>?_
    rw [hb]
    exact ⟨fun h=>⟨⟨h1,fun h'=>absurd h' (by omega)⟩,h⟩,fun h=>h.2⟩
  ·simp only [if_neg h1]
   exact Evs.done (by simp only [Bool.false_eq_true,false_iff];exact fun h=>h1 h.1.1)
theorem specRecs_loop (l:List Rc) (hl:smallRs l):∀ (d i:Nat),l.length - i=d→i ≤ l.length→Evs (fun k=>spec_l5Records.l0 k l (i:Int)) (fun b=>b=true↔RF l i∧1 ≤ l.length∧l.length ≤ 6):=by
 intro d
 induction d with
 | zero=>
  intro i hd hi
  refine Evs.succ ?_
  simp only [spec_l5Records.l0,if_neg (show ¬ (i:Int) < (l.length:Int) by omega),spec_l6In_eq,bsome]
  exact Evs.done (by simp only [decide_eq_true_eq];exact ⟨fun h=>⟨RF_end (by omega),by omega,by omega⟩,fun h=>by have:=h.2;omega⟩)
 | succ d ih=>
  intro i hd hi
  have hll:=hl.1
  have hn:=ih (i+1) (by omega) (by omega)
  have e1:wrap64 ((i:Int)+1)=((i+1:Nat):Int):=by rw [wrap_id (by omega) (by omega)];omega
  have e2:wrap64 ((i:Int) - 1)=(i:Int) - 1:=wrap_id (by omega) (by omega)
  rw [RF_step (show i < l.length by omega)]
  refine Evs.succ ?_
  simp only [spec_l5Records.l0,if_pos (show (i:Int) < (l.length:Int) by omega),if_pos (show (0:Int) ≤ i by omega),e1,e2]
  refine Evs.bind (Evs.of (specRec (rr l (i:Int)) (smallRs_at hl i (by omega))) rfl:Evs _ (fun x=>x=rv (rr l (i:Int)))) ?_
  rintro _ rfl
  by_cases h1:rv (rr l (i:Int))=true
  ·simp only [if_pos h1]
   by_cases h0:(i:Int) > 0
   ·simp only [if_pos h0,if_pos (show 0 ≤ (i:Int) - 1 by omega),if_pos (show (i:Int) - 1 < (l.length:Int) by omega)]
    by_cases h2:(rr l ((i:Int) - 1)).f0 ≥ (rr l (i:Int)).f0
    ·simp only [if_pos h2]
     refine Evs.done ?_
     simp only [Bool.false_eq_true,false_iff]
     rintro ⟨⟨⟨_,h3⟩,_⟩,_⟩
     have:=h3 (by omega)
     omega
    ·simp only [if_neg h2]
     refine hn.mono fun b hb=>?_
     rw [hb]
     exact ⟨fun h=>⟨⟨⟨h1,fun _=>by omega⟩,h.1⟩,h.2⟩,fun h=>⟨h.1.2,h.2⟩⟩
   ·simp only [if_neg h0]
    refine hn.mono fun b hb=>?_
    rw [hb]
    exact ⟨fun h=>⟨⟨⟨h1,fun h'=>absurd h' (by omega)⟩,h.1⟩,h.2⟩,fun h=>⟨h.1.2,h.2⟩⟩
  ·simp only [if_neg h1]
   exact Evs.done (by simp only [Bool.false_eq_true,false_iff];exact fun h=>h1 h.1.1.1)
def VB (a1:Bool) (a2 a3 a4:Int) (l:List Rc):Prop:=
 (if a2=255 then a3=0∧a4=0∧a1=false else (0 ≤ a2∧a2 ≤ 254)∧(0 ≤ a3∧a3 ≤ 99)∧(0 ≤ a4∧a4 ≤ 9999))∧(1 ≤ l.length∧l.length ≤ 6)∧(a1=true→l.length=1)∧RF l 0
theorem implB_j0 (a0 a1:Bool) (a2 a3 a4:Int) (l:List Rc) (hl:smallRs l):Evs (fun k=>impl_BatchValid.j0 k a0 a1 a2 a3 a4 l) (fun b=>b=true↔(1 ≤ l.length∧l.length ≤ 6)∧(a1=true→l.length=1)∧RF l 0):=by
 have hr:=implRecs_loop l hl a0 a1 a2 a3 a4 l.length 0 (by omega) (by omega)
 refine Evs.succ ?_
 simp only [impl_BatchValid.j0,impl_within_eq,bsome,decide_eq_true_eq]
 by_cases h : 1 ≤ (l.length:Int)∧(l.length:Int) ≤ 6
 ·simp only [if_pos h]
  cases a1 with
  | true=>
   simp only [if_true]
   refine Evs.succ ?_
   by_cases h1:l.length=1
   ·simp only [impl_BatchValid.j1,show ((l.length:Int) != 1)=false by rw [h1];rfl,Bool.false_eq_true,if_false]
    refine hr.mono fun b hb=>?_
    rw [hb]
    exact ⟨fun h2=>⟨by omega,fun _=>h1,h2⟩,fun h2=>h2.2.2⟩
   ·simp only [impl_BatchValid.j1,show ((l.length:Int) != 1)=true by simp;omega,if_true]
    exact Evs.done (by simp only [Bool.false_eq_true,false_iff];exact fun h2=>h1 (h2.2.1 trivial))
  | false=>
   simp only [Bool.false_eq_true,if_false]
   refine Evs.succ ?_
   simp only [impl_BatchValid.j1,Bool.false_eq_true,if_false]
   refine hr.mono fun b hb=>?_
   rw [hb]
   exact ⟨fun h2=>⟨by omega,(fun h3=>h3.elim),h2⟩,fun h2=>h2.2.2⟩
 ·simp only [if_neg h]
  refine Evs.succ ?_
  simp only [impl_BatchValid.j1,if_true]
  exact Evs.done (by simp only [Bool.false_eq_true,false_iff];exact fun h2=>h ⟨by have:=h2.1.1;omega,by have:=h2.1.2;omega⟩)
theorem implB_evs (a0 a1:Bool) (a2 a3 a4:Int) (l:List Rc) (hl:smallRs l):Evs (fun k=>impl_BatchValid.f k a0 a1 a2 a3 a4 l) (fun b=>b=true↔VB a1 a2 a3 a4 l):=by
 have hj:=implB_j0 a0 a1 a2 a3 a4 l hl
 unfold impl_BatchValid.f VB
 by_cases h:a2=255
 ·simp only [if_pos h]
  by_cases h3:a3=0
  ·simp only [if_pos h3]
   by_cases h4:a4=0
   ·simp only [if_pos h4]
    cases a1 with
    | true=>
     simp only [if_true]
     exact Evs.done (by simp)
    | false=>
     simp only [Bool.false_eq_true,if_false]
     refine hj.mono fun b hb=>?_
     rw [hb]
     exact ⟨fun h2=>⟨⟨h3,h4,trivial⟩,h2.1,(fun h5=>h5.elim),h2.2.2⟩,fun h2=>⟨h2.2.1,(fun h5=>by cases h5),h2.2.2.2⟩⟩
   ·simp only [if_neg h4]
    exact Evs.done (by simp only [Bool.false_eq_true,false_iff];exact fun h2=>h4 h2.1.2.1)
  ·simp only [if_neg h3]
   exact Evs.done (by simp only [Bool.false_eq_true,false_iff];exact fun h2=>h3 h2.1.1)
 ·simp only [if_neg h,idValid_eqB,impl_within_eq,bsome,decide_eq_true_eq]
  by_cases h2 : 0 ≤ a2∧a2 ≤ 254
  ·simp only [if_pos h2]
   by_cases h3 : 0 ≤ a3∧a3 ≤ 99
   ·simp only [if_pos h3]
    by_cases h4 : 0 ≤ a4∧a4 ≤ 9999
    ·simp only [if_pos h4]
     refine hj.mono fun b hb=>?_
     rw [hb]
     exact ⟨fun h5=>⟨⟨h2,h3,h4⟩,h5⟩,fun h5=>h5.2⟩
    ·simp only [if_neg h4]
     exact Evs.done (by simp only [Bool.false_eq_true,false_iff];exact fun h5=>h4 h5.1.2.2)
   ·simp only [if_neg h3]
    exact Evs.done (by simp only [Bool.false_eq_true,false_iff];exact fun h5=>h3 h5.1.2.1)
  ·simp only [if_neg h2]
   exact Evs.done (by simp only [Bool.false_eq_true,false_iff];exact fun h5=>h2 h5.1.1)
theorem specB_j0_true (a0 a1:Bool) (a2 a3 a4:Int) (l:List Rc):Evs (fun k=>spec_BatchValid.j0 k true a0 a1 a2 a3 a4 l) (fun b=>b=false):=by
 refine Evs.succ ?_
 simp only [spec_BatchValid.j0,if_true]
 exact Evs.done rfl
theorem specB_evs (a0 a1:Bool) (a2 a3 a4:Int) (l:List Rc) (hl:smallRs l):Evs (fun k=>spec_BatchValid.f k a0 a1 a2 a3 a4 l) (fun b=>b=true↔VB a1 a2 a3 a4 l):=by
 have hr:=specRecs_loop l hl l.length 0 (by omega) (by omega)
 have no:∀ {P:Prop},¬ P→∀ b:Bool,b=false→(b=true↔P):=fun hP b hb=>by rw [hb];simp only [Bool.false_eq_true,false_iff];exact hP
 unfold spec_BatchValid.f
 unfold spec_l5Records.f
 refine Evs.bind hr ?_
 intro t ht
 by_cases h:t=true
 ·obtain ⟨hRF,hl1⟩:=ht.1 h
  simp only [if_pos h,spec_l6In_eq,bsome,decide_eq_true_eq]
  by_cases h2 : 0 ≤ a2∧a2 ≤ 255
  ·simp only [if_pos h2]
   by_cases h3 : 0 ≤ a3∧a3 ≤ 99
   ·simp only [if_pos h3]
    by_cases h4 : 0 ≤ a4∧a4 ≤ 9999
    ·simp only [decide_eq_true h4,Bool.not_true]
     refine Evs.succ ?_
     simp only [spec_BatchValid.j0,Bool.false_eq_true,if_false]
     unfold VB
     by_cases h5:a2=255
     ·simp only [if_pos h5]
      by_cases h6:a3=0
      ·simp only [if_pos h6]
       by_cases h7:a4=0
       ·simp only [if_pos h7]
        refine Evs.done ?_
        cases a1
        ·simp;exact ⟨⟨h6,h7⟩,hl1,hRF⟩
        ·simp
       ·simp only [if_neg h7]
        exact Evs.done (no (fun h8=>h7 h8.1.2.1) _ rfl)
      ·simp only [if_neg h6]
       exact Evs.done (no (fun h8=>h6 h8.1.1) _ rfl)
     ·simp only [if_neg h5]
      cases a1 with
      | true=>
       simp only [if_true]
       refine Evs.done ?_
       simp only [beq_iff_eq]
       exact ⟨fun h8=>⟨⟨by omega,h3,h4⟩,hl1,fun _=>by omega,hRF⟩,fun h8=>by have:=h8.2.2.1 trivial;omega⟩
      | false=>
       simp only [Bool.false_eq_true,if_false]
       refine Evs.done ?_
       simp only [true_iff]
       exact ⟨⟨by omega,h3,h4⟩,hl1,(fun h8=>h8.elim),hRF⟩
    ·simp only [decide_eq_false h4,Bool.not_false]
     refine (specB_j0_true a0 a1 a2 a3 a4 l).mono (no ?_)
     unfold VB
     split
     ·rintro ⟨⟨_,h8,_⟩,_⟩
      exact h4 (by omega)
     ·exact fun h8=>h4 h8.1.2.2
   ·simp only [if_neg h3]
    refine (specB_j0_true a0 a1 a2 a3 a4 l).mono (no ?_)
    unfold VB
    split
    ·rintro ⟨⟨h8,_,_⟩,_⟩
     exact h3 (by omega)
    ·exact fun h8=>h3 h8.1.2.1
  ·simp only [if_neg h2]
   refine (specB_j0_true a0 a1 a2 a3 a4 l).mono (no ?_)
   unfold VB
   split
   ·rename_i h8
    exact fun _=>h2 (by omega)
   ·exact fun h8=>h2 (by have:=h8.1.1;omega)
 ·simp only [if_neg h]
  refine (specB_j0_true a0 a1 a2 a3 a4 l).mono (no ?_)
  exact fun h8=>h (ht.2 ⟨h8.2.2.2,h8.2.1⟩)
open Classical in
noncomputable def vb (a1:Bool) (a2 a3 a4:Int) (l:List Rc):Bool:=decide (VB a1 a2 a3 a4 l)
theorem vb_iff (a1:Bool) (a2 a3 a4:Int) (l:List Rc):vb a1 a2 a3 a4 l=true↔VB a1 a2 a3 a4 l:=by unfold vb;simp
theorem implB (a0 a1:Bool) (a2 a3 a4:Int) (l:List Rc) (hl:smallRs l):Ev (fun k=>impl_BatchValid.f k a0 a1 a2 a3 a4 l) (vb a1 a2 a3 a4 l):=by
 obtain ⟨b,hb,h⟩:=implB_evs a0 a1 a2 a3 a4 l hl
 rw [show vb a1 a2 a3 a4 l=b by rw [Bool.eq_iff_iff,vb_iff,h]]
 exact hb
theorem specB (a0 a1:Bool) (a2 a3 a4:Int) (l:List Rc) (hl:smallRs l):Ev (fun k=>spec_BatchValid.f k a0 a1 a2 a3 a4 l) (vb a1 a2 a3 a4 l):=by
 obtain ⟨b,hb,h⟩:=specB_evs a0 a1 a2 a3 a4 l hl
 rw [show vb a1 a2 a3 a4 l=b by rw [Bool.eq_iff_iff,vb_iff,h]]
 exact hb
end Go.Proofs.Ytkhmopmfbocokaa.Q
